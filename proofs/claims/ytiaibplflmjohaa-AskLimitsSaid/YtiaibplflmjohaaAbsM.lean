/- The abstract machine: stores, copies, rows that grow, beside the model's. -/
import Derived.Test.YtiaibplflmjohaaAbsL
set_option linter.unusedVariables false
set_option linter.unusedSimpArgs false
namespace Go.Abs
open Go Go.RowKit
set_option linter.unusedVariables false
set_option linter.unusedSimpArgs false

theorem scal_all {ρ : Ren} : ∀ {a b : List Value}, VRs ρ a b → a.all scal = true → ∀ v ∈ b, v.oneCell' = true
  | _, _, .nil, _ => by simp
  | _, _, .cons x y l m h1 h2, h => by
    simp only [List.all_cons, Bool.and_eq_true] at h
    intro v hv
    rcases List.mem_cons.1 hv with e | hv
    · subst e; rw [← scal_one, h1.scal]; exact h.1
    · exact scal_all h2 h.2 v hv

theorem storeAt_sim {P : Program} {B0 : Nat} {ρ : Ren} {H H' : Heap} {w : World} (r : Rel B0 ρ H w) {id off : Nat} {L : Loc} {vs ws : List Value} (hL : ρ id = some L) (h : astoreAt id off vs H = some H') (hv : VRs ρ vs ws) :
    (storeCells ⟨L.cb, L.base + off, none⟩ ws).run P w = .ok () (w.setCells L.cb (L.base + off) ws) ∧ Rel B0 ρ H' (w.setCells L.cb (L.base + off) ws) ∧ Fut B0 ρ H w ρ H' (w.setCells L.cb (L.base + off) ws) := by
  unfold astoreAt at h
  split at h
  · rename_i c md hb
    split at h
    · rename_i hc
      obtain ⟨c1, c2, c3⟩ := hc
      injection h with h; subst h
      have hl := hv.length_eq
      obtain ⟨o1, o2, o3⟩ := r.own id L c md hL hb c1
      refine ⟨?_, r.write hL hb c1 c2 hv, Fut.write r hL hb c1 _ _ _⟩
      have := run_storeCells_cells (P := P) L.cb (L.base + off) ws 0 w (fun j hj => (o3 _ (by omega) (by omega)).1) (fun j hj => (o3 _ (by omega) (by omega)).2) (scal_all hv c3)
      simpa using this
    · cases h
  · cases h

theorem store_sim {P : Program} {B0 : Nat} {ρ : Ren} {H H' : Heap} {w : World} (r : Rel B0 ρ H w) {t : TypeId} {a a' v v' : Value} (h : astore P t a v H = some H') (ha : VR ρ a a') (hv : VR ρ v v') :
    ∃ w', (Instr.storeAt t a' v').run P w = .ok () w' ∧ Rel B0 ρ H' w' ∧ Fut B0 ρ H w ρ H' w' := by
  unfold astore at h
  split at h
  · rename_i id off
    obtain ⟨L, hL, rfl⟩ := ha.ptr_inv
    split at h
    · rename_i hs
      have hc := hv.cells
      obtain ⟨h1, h2, h3⟩ := storeAt_sim (P := P) r hL h hc
      refine ⟨_, ?_, h2, h3⟩
      unfold sizeT at hs
      cases hi : P.info? t with
      | none => simp [hi] at hs
      | some i =>
        simp [hi] at hs
        have hl : v'.cells.size = i.size := by have := hc.length_eq; simp at this; omega
        simp [Instr.storeAt, Instr.sureAddr, storeVar, run_size hi, hl, h1]
    · cases h
  · cases h

theorem first_sim {P : Program} {B0 : Nat} {ρ : Ren} {H : Heap} {w : World} (r : Rel B0 ρ H w) {size n m : Nat} {x x' : Value} {xs : List Value} (h : firstL H size n x = some xs) (hx : VR ρ x x') (hl : lenV x = some m) (hn : n ≤ m) :
    ∃ cs : List Value, (Builtin.firstCells size n x').run P w = .ok ⟨cs⟩ w ∧ VRs ρ xs cs ∧ (Builtin.lenOf x').run P w = .ok m w ∧ xs.length = n * size := by
  unfold firstL at h
  split at h
  · rename_i id off len cap
    obtain ⟨L, off', cap', hL, rfl, g1, g2, g3, g4, g5⟩ := hx.slice_inv
    simp only [lenV, Option.some.injEq] at hl; subst hl
    split at h
    · rename_i h0
      injection h with h; subst h; subst h0
      exact ⟨[], by simp [Builtin.firstCells, loadCells, loadCellsFrom], .nil, by simp [Builtin.lenOf], by simp⟩
    · rename_i h0
      obtain ⟨cs, k1, k2, k3, k4⟩ := cells_sim r hL h
      have ho : off' = off := g3 (by omega)
      subst ho
      have hld := run_loadCells_list (P := P) w ⟨L.cb, L.base + off', none⟩ cs (fun j v hj => by rw [addr_add]; exact k4 j v hj)
      rw [k1] at hld
      exact ⟨cs, by simp [Builtin.firstCells, hld], k3, by simp [Builtin.lenOf], k2⟩
  · rename_i len cap
    have := hx.flat_eq rfl; subst this
    simp only [lenV, Option.some.injEq] at hl; subst hl
    split at h
    · rename_i h0
      injection h with h; subst h; subst h0
      exact ⟨[], by simp [Builtin.firstCells], .nil, by simp [Builtin.lenOf], by simp⟩
    · cases h
  · rename_i s
    have := hx.string_inv; subst this
    simp only [lenV, Option.some.injEq] at hl; subst hl
    split at h
    · rename_i hc
      injection h with h; subst h
      refine ⟨(s.extract 0 n).data.toList.map fun b => .int .u8 b.toNat, ?_, VRs.refl_flat ρ _ ?_, by simp [Builtin.lenOf], ?_⟩
      · simp only [Builtin.firstCells, Sem.run_pure]
        congr 1
        apply Array.toList_inj.1
        simp
      · generalize (s.extract 0 n).data.toList = l
        induction l with
        | nil => rfl
        | cons b l ih => simp [flatL, Abs.flat, ih]
      · rw [hc.2]
        simp [ByteArray.extract, ByteArray.copySlice]
        have := hc.1
        have e : s.size = s.data.size := rfl
        omega
    · cases h
  · cases h

theorem isIntT_run {P : Program} {t : TypeId} {b : Bool} (h : isIntT P t = some b) : ∃ d, P.underlying t = some d ∧ (match d with | .int _ => true | _ => false) = b := by
  unfold isIntT at h
  cases hu : P.underlying t with
  | none => simp [hu] at h
  | some d =>
    refine ⟨d, rfl, ?_⟩
    cases d <;> simp [hu] at h <;> subst h <;> rfl

/-- How many cells the kit's rule asks for, at most. -/
theorem growBy_le (n : Nat) : ∀ (k c : Nat), c ≤ 2 * n + 768 → Builtin.growBy n k c ≤ 2 * n + 768
  | 0, c, h => h
  | k + 1, c, h => by
    unfold Builtin.growBy
    split
    · exact h
    · exact growBy_le n k _ (by omega)
theorem nextcap_le (n c : Nat) (h : c < n) : Builtin.nextslicecap n c ≤ 2 * n + 768 := by
  unfold Builtin.nextslicecap
  split
  · omega
  · split
    · omega
    · exact growBy_le n 4 c (by omega)

theorem zeroCells_eq (z : Array Value) (hz : 0 < z.size) (n : Nat) : Builtin.zeroCells z n = (⟨repeatL z.toList n⟩ : Array Value) := repeat_range z n hz
end Go.Abs
