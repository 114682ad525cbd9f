/- The abstract machine: operations that read, beside the model's. -/
import Derived.Test.YtiaibplflmjohaaAbsI
import Derived.Laws.Cells
import Derived.Laws.BytesString
set_option linter.unusedVariables false
set_option linter.unusedSimpArgs false
namespace Go.Abs
open Go Go.RowKit
set_option linter.unusedVariables false
set_option linter.unusedSimpArgs false

theorem cells_sim {B0 : Nat} {ρ : Ren} {H : Heap} {w : World} (r : Rel B0 ρ H w) {id off n : Nat} {L : Loc} (hL : ρ id = some L) {as : List Value} (h : cellsAt H id off n = some as) :
    ∃ cs : List Value, cs.length = n ∧ as.length = n ∧ VRs ρ as cs ∧ ∀ (j : Nat) (v : Value), cs[j]? = some v → w.cell? ⟨L.cb, L.base + off + j, none⟩ = some v := by
  unfold cellsAt at h
  split at h
  · rename_i c md hb
    split at h
    · rename_i hle
      injection h with h
      have hlen : as.length = n := by rw [← h]; simp; omega
      have key : ∀ j v, as[j]? = some v → ∃ v', w.cell? ⟨L.cb, L.base + off + j, none⟩ = some v' ∧ VR ρ v v' := by
        intro j v hj
        rw [← h, List.getElem?_take] at hj
        split at hj
        · rw [List.getElem?_drop] at hj
          obtain ⟨v', hv', hr⟩ := r.cells id L c md hL hb (off + j) v hj
          exact ⟨v', by rw [Nat.add_assoc]; exact hv', hr⟩
        · cases hj
      refine ⟨(List.range n).map fun j => (w.cell? ⟨L.cb, L.base + off + j, none⟩).getD undefV, by simp, hlen, ?_, ?_⟩
      · refine VRs.of_get (by simp [hlen]) fun j v hj => ?_
        obtain ⟨v', hv', hr⟩ := key j v hj
        have hjn : j < n := by
          rcases Nat.lt_or_ge j n with h' | h'
          · exact h'
          · rw [List.getElem?_eq_none (by omega)] at hj; cases hj
        exact ⟨v', by simp [hjn, hv'], hr⟩
      · intro j v hj
        have hjn : j < n := by
          rcases Nat.lt_or_ge j n with h' | h'
          · exact h'
          · rw [List.getElem?_eq_none (by simp; omega)] at hj; cases hj
        obtain ⟨u, hu⟩ : ∃ u, as[j]? = some u := ⟨as[j], by rw [List.getElem?_eq_getElem (by omega)]⟩
        obtain ⟨v', hv', hr⟩ := key j u hu
        simp [hjn, hv'] at hj
        rw [hv', hj]
    · cases h
  · cases h

theorem load_sim {P : Program} {B0 : Nat} {ρ : Ren} {H : Heap} {w : World} (r : Rel B0 ρ H w) {t : TypeId} {a a' v : Value} (h : aload P t a H = some v) (ha : VR ρ a a') :
    ∃ cv, (Instr.loadAt t a').run P w = .ok cv w ∧ VR ρ v cv := by
  unfold aload at h
  split at h
  · rename_i id off
    obtain ⟨L, hL, rfl⟩ := ha.ptr_inv
    split at h
    · rename_i c md hb
      split at h
      · rename_i n hag hsz
        split at h
        · rename_i hle
          injection h with h; subst h
          obtain ⟨cs, h1, h2, h3, h4⟩ := cells_sim r hL (n := n) (off := off) (as := (c.drop off).take n) (by simp [cellsAt, hb, hle])
          refine ⟨.agg cs.toArray, ?_, .agg _ _ h3⟩
          unfold sizeT at hsz
          cases hi : P.info? t with
          | none => simp [hi] at hsz
          | some i =>
            simp [hi] at hsz
            have := run_loadCells_list (P := P) w ⟨L.cb, L.base + off, none⟩ cs (fun j v hj => by rw [addr_add]; exact h4 j v hj)
            subst h1
            simp [Instr.loadAt, Instr.sureAddr, loadVar, run_isAgg hag, run_size hi, hsz, this]
        · cases h
      · rename_i hag
        obtain ⟨v', hv', hr⟩ := r.cells id L c md hL hb off v h
        refine ⟨v', ?_, hr⟩
        simp [Instr.loadAt, Instr.sureAddr, loadVar, run_isAgg hag, hv']
      · cases h
    · cases h
  · cases h

theorem bytesL_map : ∀ (l : List Value) (bs : List UInt8), bytesL l = some bs → ∃ ns : List Int, l = ns.map (Value.int .u8) ∧ bs = ns.map fun n => UInt8.ofNat n.toNat := by
  intro l
  induction l with
  | nil => intro bs h; simp [bytesL] at h; subst h; exact ⟨[], rfl, rfl⟩
  | cons a l ih =>
    intro bs h
    unfold bytesL at h
    split at h
    · cases ‹_ :: _ = []›
    · rename_i n l' e
      injection e with e1 e2; subst e1; subst e2
      simp only [Option.map_eq_some_iff] at h
      obtain ⟨bs', hb, rfl⟩ := h
      obtain ⟨ns, rfl, rfl⟩ := ih bs' hb
      exact ⟨n :: ns, rfl, rfl⟩
    · cases h
theorem foldl_bytes (ns : List Int) : ns.foldl (fun (r : ByteArray) n => r.push (UInt8.ofNat n.toNat)) ByteArray.empty = ⟨(ns.map fun n => UInt8.ofNat n.toNat).toArray⟩ := by
  have gen : ∀ (ns : List Int) (b : ByteArray), ns.foldl (fun (r : ByteArray) n => r.push (UInt8.ofNat n.toNat)) b = ⟨b.data ++ (ns.map fun n => UInt8.ofNat n.toNat).toArray⟩ := by
    intro ns
    induction ns with
    | nil => intro b; cases b; simp
    | cons n ns ih =>
      intro b
      rw [List.foldl_cons, ih]
      cases b
      simp [ByteArray.push]
  have e : ByteArray.empty.data = (#[] : Array UInt8) := rfl
  rw [gen, e, Array.empty_append]

theorem convert_sim {P : Program} {B0 : Nat} {ρ : Ren} {H : Heap} {w : World} (r : Rel B0 ρ H w) {src dst : TypeId} {x x' v : Value} (h : aconvert P src dst x H = some v) (hx : VR ρ x x') :
    ∃ cv, (Go.convert src dst x').run P w = .ok cv w ∧ VR ρ v cv := by
  unfold aconvert at h
  split at h
  · rename_i id off len cap
    obtain ⟨L, off', cap', hL, rfl, h1, h2, h3, h4, h5⟩ := hx.slice_inv
    split at h
    · rename_i e hs hd
      split at h
      · rename_i hu8
        simp only [Option.map_eq_some_iff] at h
        obtain ⟨bs, hb, rfl⟩ := h
        refine ⟨_, ?_, .flat _ rfl⟩
        rw [run_convert_bytes_string w src dst e _ _ _ hs hu8 hd]
        by_cases h0 : len = 0
        · subst h0
          simp [bytesL] at hb; subst hb
          have := run_bytesToString (P := P) w ⟨L.cb, L.base + off', none⟩ 0 cap' [] (by simp [loadCells, loadCellsFrom])
          exact this
        · rw [if_neg h0] at hb
          cases hc : cellsAt H id off len with
          | none => simp [hc] at hb
          | some as =>
            simp only [hc, Option.bind_some] at hb
            obtain ⟨ns, rfl, rfl⟩ := bytesL_map as bs hb
            obtain ⟨cs, g1, g2, g3, g4⟩ := cells_sim r hL hc
            have hflat : ∀ ns : List Int, flatL (ns.map (Value.int .u8)) = true := by
              intro ns; induction ns with
              | nil => rfl
              | cons n ns ih => simp [flatL, Abs.flat, ih]
            have : cs = ns.map (Value.int .u8) := g3.flat_eq (hflat ns)
            subst this
            have ho : off' = off := h3 (by omega)
            subst ho
            have hl := run_loadCells_list (P := P) w ⟨L.cb, L.base + off', none⟩ (ns.map (Value.int .u8)) (fun j v hj => by rw [addr_add]; exact g4 j v hj)
            rw [g1] at hl
            have := run_bytesToString (P := P) w ⟨L.cb, L.base + off', none⟩ len cap' ns hl
            rw [this, foldl_bytes]
      · cases h
    · cases h
  · split at h
    · rename_i hf
      obtain ⟨hp, hfl⟩ := flatRes_some h
      exact ⟨v, by rw [hx.flat_eq hf]; exact purely_run' w hp, .flat _ hfl⟩
    · cases h


/-! Slices -/
theorem boundV_sim {P : Program} {ρ : Ren} {x x' : Value} {y y' n : Nat} (h : boundV x y = some n) (hx : VR ρ x x') (hy : y ≤ y') (code : BoundsCode) (w : World) :
    (Instr.sliceBound x' y' code).run P w = .ok n w ∧ n ≤ y := by
  unfold boundV at h
  split at h
  · rename_i k i
    split at h
    · rename_i hi
      injection h with h; subst h
      have := hx.int_inv; subst this
      refine ⟨?_, by omega⟩
      have h2 : 0 ≤ i ∧ i ≤ (y' : Int) := ⟨hi.1, by omega⟩
      simp [Instr.sliceBound, asIntOf, h2]
    · cases h
  · cases h

/-- The bounds of a slice expression; the capacity may be a greater one. -/
theorem boundsV_sim {P : Program} {ρ : Ren} {len cap cap' : Nat} {lo hi mx : Option Value} {lo' hi' mx' : Option Value} {b : Nat × Nat × Nat} (h : boundsV len cap lo hi mx = some b)
    (hlo : ∀ v, lo = some v → ∃ v', lo' = some v' ∧ VR ρ v v') (hlo0 : lo = none → lo' = none) (hhi : ∀ v, hi = some v → ∃ v', hi' = some v' ∧ VR ρ v v') (hhi0 : hi = none → hi' = none)
    (hmx : ∀ v, mx = some v → ∃ v', mx' = some v' ∧ VR ρ v v') (hmx0 : mx = none → mx' = none) (hc : cap ≤ cap') (hl : len ≤ cap) (isS : Bool) (w : World) :
    ∃ m', (Instr.sliceBounds isS len cap' lo' hi' mx').run P w = .ok (b.1, b.2.1, m') w ∧ b.1 ≤ b.2.1 ∧ b.2.1 ≤ b.2.2 ∧ b.2.2 ≤ cap ∧ ((mx = none ∧ m' = cap' ∧ b.2.2 = cap) ∨ m' = b.2.2) := by
  unfold boundsV at h
  cases mx with
  | none =>
    simp only at h
    rw [hmx0 rfl]
    cases hi with
    | none =>
      simp only at h
      rw [hhi0 rfl]
      cases lo with
      | none =>
        simp only at h; injection h with h; subst h
        rw [hlo0 rfl]
        exact ⟨cap', by simp [Instr.sliceBounds], by simp, hl, Nat.le_refl _, .inl ⟨rfl, rfl, rfl⟩⟩
      | some v =>
        simp only at h
        cases hb : boundV v len with
        | none => simp [hb] at h
        | some l =>
          simp only [hb] at h; injection h with h; subst h
          obtain ⟨v', e, hv⟩ := hlo v rfl
          subst e
          obtain ⟨h1, h2⟩ := boundV_sim (P := P) hb hv (Nat.le_refl _) .sliceB w
          exact ⟨cap', by simp [Instr.sliceBounds, h1], h2, hl, Nat.le_refl _, .inl ⟨rfl, rfl, rfl⟩⟩
    | some u =>
      simp only at h
      obtain ⟨u', e, hu⟩ := hhi u rfl
      subst e
      cases hbu : boundV u cap with
      | none => simp [hbu] at h
      | some hh =>
        simp only [hbu] at h
        obtain ⟨g1, g2⟩ := boundV_sim (P := P) hbu hu hc (if isS then .sliceAcap else .sliceAlen) w
        cases lo with
        | none =>
          simp only at h; injection h with h; subst h
          rw [hlo0 rfl]
          exact ⟨cap', by simp [Instr.sliceBounds, g1], by simp, g2, Nat.le_refl _, .inl ⟨rfl, rfl, rfl⟩⟩
        | some v =>
          simp only at h
          cases hb : boundV v hh with
          | none => simp [hb] at h
          | some l =>
            simp only [hb] at h; injection h with h; subst h
            obtain ⟨v', e, hv⟩ := hlo v rfl
            subst e
            obtain ⟨h1, h2⟩ := boundV_sim (P := P) hb hv (Nat.le_refl _) .sliceB w
            exact ⟨cap', by simp [Instr.sliceBounds, g1, h1], h2, g2, Nat.le_refl _, .inl ⟨rfl, rfl, rfl⟩⟩
  | some x =>
    simp only at h
    obtain ⟨x', e, hx⟩ := hmx x rfl
    subst e
    cases hbx : boundV x cap with
    | none => simp [hbx] at h
    | some m =>
      simp only [hbx] at h
      obtain ⟨k1, k2⟩ := boundV_sim (P := P) hbx hx hc (if isS then .slice3Acap else .slice3Alen) w
      cases hi with
      | none => simp at h
      | some u =>
        simp only at h
        obtain ⟨u', e, hu⟩ := hhi u rfl
        subst e
        cases hbu : boundV u m with
        | none => simp [hbu] at h
        | some hh =>
          simp only [hbu] at h
          obtain ⟨g1, g2⟩ := boundV_sim (P := P) hbu hu (Nat.le_refl _) .slice3B w
          cases lo with
          | none =>
            simp only at h; injection h with h; subst h
            rw [hlo0 rfl]
            exact ⟨m, by simp [Instr.sliceBounds, k1, g1], by simp, g2, k2, .inr rfl⟩
          | some v =>
            simp only at h
            cases hb : boundV v hh with
            | none => simp [hb] at h
            | some l =>
              simp only [hb] at h; injection h with h; subst h
              obtain ⟨v', e, hv⟩ := hlo v rfl
              subst e
              obtain ⟨h1, h2⟩ := boundV_sim (P := P) hb hv (Nat.le_refl _) .slice3C w
              exact ⟨m, by simp [Instr.sliceBounds, k1, g1, h1], h2, g2, k2, .inr rfl⟩

theorem slice_sim {P : Program} {B0 : Nat} {ρ : Ren} {H : Heap} {w : World} (r : Rel B0 ρ H w) {t : TypeId} {x x' v : Value} {lo hi mx lo' hi' mx' : Option Value} (h : aslice P t x lo hi mx H = some v) (hx : VR ρ x x')
    (hlo : ∀ v, lo = some v → ∃ v', lo' = some v' ∧ VR ρ v v') (hlo0 : lo = none → lo' = none) (hhi : ∀ v, hi = some v → ∃ v', hi' = some v' ∧ VR ρ v v') (hhi0 : hi = none → hi' = none)
    (hmx : ∀ v, mx = some v → ∃ v', mx' = some v' ∧ VR ρ v v') (hmx0 : mx = none → mx' = none) :
    ∃ cv, (Instr.sliceAt t x' lo' hi' mx').run P w = .ok cv w ∧ VR ρ v cv := by
  unfold aslice at h
  split at h
  · rename_i id off
    obtain ⟨L, hL, rfl⟩ := hx.ptr_inv
    split at h
    · rename_i c n e size hb ha
      simp only [Option.map_eq_some_iff] at h
      obtain ⟨b, hbv, rfl⟩ := h
      obtain ⟨inf, hu, hi2, hs⟩ := arrT_some ha
      simp only at hu hi2 hs
      subst hs
      obtain ⟨m', hrun, h1, h2, h3, h4⟩ := boundsV_sim (P := P) hbv hlo hlo0 hhi hhi0 hmx hmx0 (Nat.le_refl n) (Nat.le_refl n) false w
      have hm : m' = b.2.2 := by rcases h4 with ⟨_, a, b⟩ | a <;> omega
      subst hm
      have hk := r.kind id L c _ hL hb
      refine ⟨.slice (some ⟨L.cb, L.base + (if b.2.2 = b.1 then off else off + b.1 * inf.size), none⟩) (b.2.1 - b.1) (b.2.2 - b.1), ?_,
        .slice _ _ _ _ _ _ L hL (by omega) (Nat.le_refl _) (fun _ => rfl) (fun _ => ⟨rfl, rfl⟩) (fun es he => by rw [hk] at he; cases he)⟩
      simp only [Instr.sliceAt, Sem.run_bind, run_under hu, Result.andThen_ok, Instr.sureAddr, Sem.run_pure, hrun, run_size hi2]
      split <;> simp [addr_add, Nat.add_assoc]
    · cases h
  · rename_i id off len cap
    obtain ⟨L, off', cap', hL, rfl, g1, g2, g3, g4, g5⟩ := hx.slice_inv
    split at h
    · rename_i c md e size bytes hb ha
      split at h
      · rename_i hfit
        simp only [Option.map_eq_some_iff] at h
        obtain ⟨b, hbv, rfl⟩ := h
        obtain ⟨inf, hu, hi2, hs, _⟩ := elemT_some ha
        simp only at hu hi2 hs
        subst hs
        have hk := r.kind id L c _ hL hb
        obtain ⟨m', hrun, h1, h2, h3, h4⟩ := boundsV_sim (P := P) hbv hlo hlo0 hhi hhi0 hmx hmx0 g2 g1 true w
        have hm : b.2.2 ≤ m' ∧ m' ≤ cap' := by rcases h4 with ⟨_, a, b⟩ | a <;> omega
        refine ⟨.slice (some ⟨L.cb, L.base + (if m' = b.1 then off' else off' + b.1 * inf.size), none⟩) (b.2.1 - b.1) (m' - b.1), ?_,
          .slice _ _ _ _ _ _ L hL (by omega) (by omega) ?_ ?_ ?_⟩
        · simp only [Instr.sliceAt, Sem.run_bind, run_under hu, Result.andThen_ok, Instr.slice, Sem.run_pure, hrun, run_size hi2]
          split <;> simp [addr_add, Nat.add_assoc]
        · intro hpos
          rw [if_neg (by omega), if_neg (by omega), g3 (by omega)]
        · intro hf
          obtain ⟨q1, q2⟩ := g4 hf
          have : m' = b.2.2 := by rcases h4 with ⟨_, a, b⟩ | a <;> omega
          subst this; subst q2
          exact ⟨rfl, rfl⟩
        · intro es hg
          have := g5 es hg
          rw [hk] at hg
          subst hg
          simp [Md.fits] at hfit
          subst hfit
          have h6 : (m' - b.1) * inf.size + b.1 * inf.size = m' * inf.size := by rw [← Nat.add_mul]; congr 1; omega
          have h7 : m' * inf.size ≤ cap' * inf.size := Nat.mul_le_mul_right _ hm.2
          split
          · rename_i he; subst he; simp; omega
          · omega
      · cases h
    · cases h
  · rename_i len cap
    have := hx.flat_eq rfl; subst this
    cases ha : elemT P t with
    | none => simp [ha] at h
    | some y =>
      obtain ⟨e, size, bytes⟩ := y
      simp only [ha] at h
      split at h
      rotate_left
      · cases h
      rename_i hl
      simp only [Option.map_eq_some_iff] at h
      obtain ⟨b, hbv, rfl⟩ := h
      obtain ⟨inf, hu, hi2, hs, _⟩ := elemT_some ha
      simp only at hu hi2 hs
      obtain ⟨m', hrun, h1, h2, h3, h4⟩ := boundsV_sim (P := P) hbv hlo hlo0 hhi hhi0 hmx hmx0 (Nat.le_refl cap) hl true w
      have hm : m' = b.2.2 := by rcases h4 with ⟨_, a, b⟩ | a <;> omega
      subst hm
      refine ⟨.slice none (b.2.1 - b.1) (b.2.2 - b.1), ?_, .flat _ rfl⟩
      simp only [Instr.sliceAt, Sem.run_bind, run_under hu, Result.andThen_ok, Instr.slice, Sem.run_pure, hrun, run_size hi2]
      split <;> simp
  · cases h
end Go.Abs
