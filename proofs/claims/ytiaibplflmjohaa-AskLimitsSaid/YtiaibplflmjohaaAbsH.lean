/- The abstract machine: quiet operations beside the model's, all of them. -/
import Derived.Test.YtiaibplflmjohaaAbsG
set_option linter.unusedVariables false
set_option linter.unusedSimpArgs false
namespace Go.Abs
open Go Go.RowKit
set_option linter.unusedVariables false
set_option linter.unusedSimpArgs false

theorem underlying_struct {P : Program} {s : TypeId} {f : Nat} {x : Nat × TypeId × Nat} (h : fieldT P s f = some x) :
    ∃ fs fd i, P.underlying s = some (.struct fs) ∧ fs[f]? = some fd ∧ P.info? fd.type = some i ∧ x = (fd.offset, fd.type, i.size) := by
  unfold fieldT at h
  split at h
  · rename_i fs hu
    split at h
    · rename_i fd hf
      cases hi : P.info? fd.type with
      | none => simp [hi] at h
      | some i => simp [hi] at h; exact ⟨fs, fd, i, hu, hf, hi, h.symm⟩
    · cases h
  · cases h
theorem elemT_some {P : Program} {t : TypeId} {x : TypeId × Nat × Nat} (h : elemT P t = some x) : ∃ i, P.underlying t = some (.slice x.1) ∧ P.info? x.1 = some i ∧ x.2.1 = i.size ∧ x.2.2 = i.bytes := by
  unfold elemT at h
  split at h
  · rename_i e hu
    cases hi : P.info? e with
    | none => simp [hi] at h
    | some i => simp [hi] at h; subst h; exact ⟨i, hu, hi, rfl, rfl⟩
  · cases h
theorem arrT_some {P : Program} {t : TypeId} {x : Nat × TypeId × Nat} (h : arrT P t = some x) : ∃ i, P.underlying t = some (.array x.1 x.2.1) ∧ P.info? x.2.1 = some i ∧ x.2.2 = i.size := by
  unfold arrT at h
  split at h
  · rename_i n e hu
    cases hi : P.info? e with
    | none => simp [hi] at h
    | some i => simp [hi] at h; subst h; exact ⟨i, hu, hi, rfl⟩
  · cases h

theorem fieldAddr_sim {P : Program} {ρ : Ren} {s : TypeId} {f : Nat} {x x' v : Value}
    (h : afieldAddr P s x f = some v) (hx : VR ρ x x') (w : World) :
    ∃ cv, (Instr.fieldAt s x' f).run P w = .ok cv w ∧ VR ρ v cv := by
  unfold afieldAddr at h
  split at h
  · rename_i id off o ty size hf
    split at h
    · cases h
    · rename_i hz
      injection h with h; subst h
      obtain ⟨fs, fd, i, hu, hfd, hi, he⟩ := underlying_struct hf
      injection he with e1 e2; injection e2 with e2 e3; subst e1 e2 e3
      obtain ⟨L, hL, rfl⟩ := hx.ptr_inv
      refine ⟨.pointer (some ⟨L.cb, L.base + (off + fd.offset), none⟩), ?_, .ptr id _ L hL⟩
      simp [Instr.fieldAt, run_under hu, hfd, Instr.sureAddr, fieldPlace, run_size hi, hz, addr_add, Nat.add_assoc]
  · cases h

theorem field_sim {P : Program} {ρ : Ren} {t : TypeId} {f : Nat} {x x' v : Value}
    (h : afield P t x f = some v) (hx : VR ρ x x') (w : World) :
    ∃ cv, (Instr.field t x' f).run P w = .ok cv w ∧ VR ρ v cv := by
  unfold afield at h
  split at h
  · rename_i cs o u size hf
    obtain ⟨fs, fd, i, hu, hfd, hi, he⟩ := underlying_struct hf
    injection he with e1 e2; injection e2 with e2 e3; subst e1 e2 e3
    obtain ⟨b, rfl, hs⟩ := hx.agg_inv
    obtain ⟨cv, hr, hv⟩ := part_sim hi hs h w
    refine ⟨cv, ?_, hv⟩
    simp [Instr.field, run_under hu, hfd, asAgg]
    simpa using hr
  · cases h

theorem indexAddr_sim {P : Program} {ρ : Ren} {t : TypeId} {x ix x' ix' v : Value} (h : aindexAddr P t x ix = some v) (hx : VR ρ x x') (hix : VR ρ ix ix') (w : World) :
    ∃ cv, (Instr.indexAt t x' ix').run P w = .ok cv w ∧ VR ρ v cv := by
  unfold aindexAddr at h
  split at h
  · rename_i k i
    have := hix.int_inv; subst this
    split at h
    · rename_i id off
      cases ha : arrT P t with
      | none => simp [ha] at h
      | some y =>
        obtain ⟨n, e, size⟩ := y
        simp only [ha] at h
        split at h
        · rename_i hin
          injection h with h; subst h
          obtain ⟨inf, hu, hi, hs⟩ := arrT_some ha
          simp only at hu hi hs
          obtain ⟨L, hL, rfl⟩ := hx.ptr_inv
          refine ⟨.pointer (some ⟨L.cb, L.base + (off + i.toNat * size), none⟩), ?_, .ptr id _ L hL⟩
          simp [Instr.indexAt, asIntOf, run_under hu, Instr.sureAddr, hin.1, hin.2, run_size hi, addr_add, hs, Nat.add_assoc]
        · cases h
    · rename_i id off len cap
      cases ha : elemT P t with
      | none => simp [ha] at h
      | some y =>
        obtain ⟨e, size, bytes⟩ := y
        simp only [ha] at h
        split at h
        · rename_i hin
          injection h with h; subst h
          obtain ⟨inf, hu, hi, hs, _⟩ := elemT_some ha
          simp only at hu hi hs
          obtain ⟨L, off', cap', hL, rfl, h1, h2, h3, h4, h5⟩ := hx.slice_inv
          have : off' = off := h3 (by omega)
          subst this
          refine ⟨.pointer (some ⟨L.cb, L.base + (off' + i.toNat * size), none⟩), ?_, .ptr id _ L hL⟩
          simp [Instr.indexAt, asIntOf, run_under hu, hin.1, hin.2, run_size hi, addr_add, hs, Nat.add_assoc]
        · cases h
    · cases h
  · cases h

theorem index_sim {P : Program} {ρ : Ren} {t : TypeId} {x ix x' ix' v : Value} (h : aindex P t x ix = some v) (hx : VR ρ x x') (hix : VR ρ ix ix') (w : World) :
    ∃ cv, (Instr.index t x' ix').run P w = .ok cv w ∧ VR ρ v cv := by
  unfold aindex at h
  split at h
  · rename_i k i
    have := hix.int_inv; subst this
    split at h
    · rename_i cs
      cases ha : arrT P t with
      | none => simp [ha] at h
      | some y =>
        obtain ⟨n, e, size⟩ := y
        simp only [ha] at h
        split at h
        · rename_i hin
          obtain ⟨inf, hu, hi, hs⟩ := arrT_some ha
          simp only at hu hi hs
          subst hs
          obtain ⟨b, rfl, hs⟩ := hx.agg_inv
          obtain ⟨cv, hr, hv⟩ := part_sim hi hs h w
          refine ⟨cv, ?_, hv⟩
          simp [Instr.index, asIntOf, run_under hu, hin.1, hin.2, run_size hi]
          simpa using hr
        · cases h
    · rename_i s
      have := hx.string_inv; subst this
      split at h
      · rename_i h0
        split at h
        · rename_i b hb hu
          injection h with h; subst h
          refine ⟨_, ?_, .flat _ rfl⟩
          simp [Instr.index, asIntOf, run_under hu, h0, hb]
        · cases h
      · cases h
    · cases h
  · cases h

theorem placesL_run {P : Program} (w : World) : ∀ (fs : List Field) (l : List (Nat × Nat)), placesL P fs = some l →
    (fs.mapM (fun f => do pure (f.offset, ← sizeOf f.type) : Field → Sem (Nat × Nat))).run P w = .ok l w := by
  intro fs
  induction fs with
  | nil => intro l h; simp [placesL] at h; subst h; rfl
  | cons f fs ih =>
    intro l h
    simp only [placesL] at h
    cases hi : P.info? f.type with
    | none => simp [hi] at h
    | some i =>
      cases hl : placesL P fs with
      | none => simp [hi, hl] at h
      | some l' =>
        simp [hi, hl] at h
        subst h
        have := ih l' hl
        simp only [List.mapM_cons, Sem.run_bind, run_size hi, Result.andThen_ok, Sem.run_pure, this]

theorem build_sim {P : Program} {ρ : Ren} {t : TypeId} {ps qs : List (Nat × Value)} {c : List Value} (h : buildL P t ps = some c) (hi : ps.map (·.1) = qs.map (·.1)) (hv : VRs ρ (ps.map (·.2)) (qs.map (·.2))) (w : World) :
    ∃ cv, (Instr.build t qs.toArray).run P w = .ok cv w ∧ VR ρ (.agg c.toArray) cv := by
  unfold buildL at h
  cases hz : zeroT P t with
  | none => simp [hz] at h
  | some z =>
    obtain ⟨hzr, hzf⟩ := run_zero (w := w) hz
    have hself : VRs ρ z.cells.toList z.cells.toList := (VR.flat z hzf).cells
    cases hp : placesT P t with
    | some l =>
      simp only [hz, hp] at h
      unfold placesT at hp
      split at hp
      · rename_i fs hu
        obtain ⟨out, ho, hr⟩ := fill_sim (ρ := ρ) _ ps qs _ _ c h hself hi hv
        refine ⟨.agg ⟨out⟩, ?_, .agg _ _ hr⟩
        have hm := placesL_run (P := P) w fs.toList l hp
        have hm2 : (fs.mapM (fun f => do pure (f.offset, ← sizeOf f.type) : Field → Sem (Nat × Nat))).run P w = .ok l.toArray w := by
          rw [← Array.toArray_toList (xs := fs), List.mapM_toArray]
          simp only [Sem.run_map, hm, Result.andThen_ok]
        simp only [Instr.build, Sem.run_bind, hzr, Result.andThen_ok, run_under hu, hm2]
        have e : (fun i : Nat => (l.toArray)[i]?) = fun i : Nat => l[i]? := by funext i; simp
        have e2 : z.cells = (⟨z.cells.toList⟩ : Array Value) := by simp
        rw [e2] at *
        simp only [e]
        simp only [List.toList_toArray] at ho ⊢
        rw [ho]
        rfl
      · cases hp
    | none =>
      cases ha : arrT P t with
      | none => simp [hz, hp, ha] at h
      | some y =>
        obtain ⟨n, e, size⟩ := y
        simp only [hz, hp, ha] at h
        obtain ⟨inf, hu, hinf, hs⟩ := arrT_some ha
        simp only at hu hinf hs
        subst hs
        obtain ⟨out, ho, hr⟩ := fill_sim (ρ := ρ) _ ps qs _ _ c h hself hi hv
        refine ⟨.agg ⟨out⟩, ?_, .agg _ _ hr⟩
        simp only [Instr.build, Sem.run_bind, hzr, Result.andThen_ok, run_under hu, run_size hinf]
        have e2 : z.cells = (⟨z.cells.toList⟩ : Array Value) := by simp
        rw [e2] at *
        simp only [List.toList_toArray] at ho ⊢
        rw [ho]
        rfl
end Go.Abs
