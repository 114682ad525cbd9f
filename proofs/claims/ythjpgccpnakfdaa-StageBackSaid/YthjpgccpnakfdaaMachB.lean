/- Of this session: a machine of its own, proved beside the model, and what the functions of the row come to on it; Lean checks all of it. -/
import Derived.Test.YthjpgccpnakfdaaMachA
import Derived.Laws.Cells
import Derived.Laws.BytesString
import Derived.IntWalk
set_option linter.unusedVariables false
set_option linter.unusedSimpArgs false
set_option linter.unusedSectionVars false
/- The abstract machine: operations that read, beside the model's. -/
namespace Go.Abs
open Go Go.RowKit
set_option linter.unusedVariables false
set_option linter.unusedSimpArgs false

theorem cells_sim {B0 : Nat} {ρ : Ren} {H : Heap} {w : World} (r : Rel B0 ρ H w) {id off n : Nat} {L : Loc} (hL : ρ id = some L) {as : List Value} (h : cellsAt H id off n = some as) :
    ∃ cs : List Value, cs.length = n ∧ as.length = n ∧ VRs ρ as cs ∧ ∀ (j : Nat) (v : Value), cs[j]? = some v → w.cell? ⟨L.cb, L.base + off + j, none⟩ = some v := by
  unfold cellsAt at h
  split at h
  · rename_i c md hb
    split at h
    · rename_i hle
      injection h with h
      have hlen : as.length = n := by rw [← h]; simp; omega
      have key : ∀ j v, as[j]? = some v → ∃ v', w.cell? ⟨L.cb, L.base + off + j, none⟩ = some v' ∧ VR ρ v v' := by
        intro j v hj
        rw [← h, List.getElem?_take] at hj
        split at hj
        · rw [List.getElem?_drop] at hj
          obtain ⟨v', hv', hr⟩ := r.cells id L c md hL hb (off + j) v hj
          exact ⟨v', by rw [Nat.add_assoc]; exact hv', hr⟩
        · cases hj
      refine ⟨(List.range n).map fun j => (w.cell? ⟨L.cb, L.base + off + j, none⟩).getD undefV, by simp, hlen, ?_, ?_⟩
      · refine VRs.of_get (by simp [hlen]) fun j v hj => ?_
        obtain ⟨v', hv', hr⟩ := key j v hj
        have hjn : j < n := by
          rcases Nat.lt_or_ge j n with h' | h'
          · exact h'
          · rw [List.getElem?_eq_none (by omega)] at hj; cases hj
        exact ⟨v', by simp [hjn, hv'], hr⟩
      · intro j v hj
        have hjn : j < n := by
          rcases Nat.lt_or_ge j n with h' | h'
          · exact h'
          · rw [List.getElem?_eq_none (by simp; omega)] at hj; cases hj
        obtain ⟨u, hu⟩ : ∃ u, as[j]? = some u := ⟨as[j], by rw [List.getElem?_eq_getElem (by omega)]⟩
        obtain ⟨v', hv', hr⟩ := key j u hu
        simp [hjn, hv'] at hj
        rw [hv', hj]
    · cases h
  · cases h

theorem load_sim {P : Program} {B0 : Nat} {ρ : Ren} {H : Heap} {w : World} (r : Rel B0 ρ H w) {t : TypeId} {a a' v : Value} (h : aload P t a H = some v) (ha : VR ρ a a') :
    ∃ cv, (Instr.loadAt t a').run P w = .ok cv w ∧ VR ρ v cv := by
  unfold aload at h
  split at h
  · rename_i id off
    obtain ⟨L, hL, rfl⟩ := ha.ptr_inv
    split at h
    · rename_i c md hb
      split at h
      · rename_i n hag hsz
        split at h
        · rename_i hle
          injection h with h; subst h
          obtain ⟨cs, h1, h2, h3, h4⟩ := cells_sim r hL (n := n) (off := off) (as := (c.drop off).take n) (by simp [cellsAt, hb, hle])
          refine ⟨.agg cs.toArray, ?_, .agg _ _ h3⟩
          unfold sizeT at hsz
          cases hi : P.info? t with
          | none => simp [hi] at hsz
          | some i =>
            simp [hi] at hsz
            have := run_loadCells_list (P := P) w ⟨L.cb, L.base + off, none⟩ cs (fun j v hj => by rw [addr_add]; exact h4 j v hj)
            subst h1
            simp [Instr.loadAt, Instr.sureAddr, loadVar, run_isAgg hag, run_size hi, hsz, this]
        · cases h
      · rename_i hag
        obtain ⟨v', hv', hr⟩ := r.cells id L c md hL hb off v h
        refine ⟨v', ?_, hr⟩
        simp [Instr.loadAt, Instr.sureAddr, loadVar, run_isAgg hag, hv']
      · cases h
    · cases h
  · cases h

theorem bytesL_map : ∀ (l : List Value) (bs : List UInt8), bytesL l = some bs → ∃ ns : List Int, l = ns.map (Value.int .u8) ∧ bs = ns.map fun n => UInt8.ofNat n.toNat := by
  intro l
  induction l with
  | nil => intro bs h; simp [bytesL] at h; subst h; exact ⟨[], rfl, rfl⟩
  | cons a l ih =>
    intro bs h
    unfold bytesL at h
    split at h
    · cases ‹_ :: _ = []›
    · rename_i n l' e
      injection e with e1 e2; subst e1; subst e2
      simp only [Option.map_eq_some_iff] at h
      obtain ⟨bs', hb, rfl⟩ := h
      obtain ⟨ns, rfl, rfl⟩ := ih bs' hb
      exact ⟨n :: ns, rfl, rfl⟩
    · cases h
theorem foldl_bytes (ns : List Int) : ns.foldl (fun (r : ByteArray) n => r.push (UInt8.ofNat n.toNat)) ByteArray.empty = ⟨(ns.map fun n => UInt8.ofNat n.toNat).toArray⟩ := by
  have gen : ∀ (ns : List Int) (b : ByteArray), ns.foldl (fun (r : ByteArray) n => r.push (UInt8.ofNat n.toNat)) b = ⟨b.data ++ (ns.map fun n => UInt8.ofNat n.toNat).toArray⟩ := by
    intro ns
    induction ns with
    | nil => intro b; cases b; simp
    | cons n ns ih =>
      intro b
      rw [List.foldl_cons, ih]
      cases b
      simp [ByteArray.push]
  have e : ByteArray.empty.data = (#[] : Array UInt8) := rfl
  rw [gen, e, Array.empty_append]

theorem convert_sim {P : Program} {B0 : Nat} {ρ : Ren} {H : Heap} {w : World} (r : Rel B0 ρ H w) {src dst : TypeId} {x x' v : Value} (h : aconvert P src dst x H = some v) (hx : VR ρ x x') :
    ∃ cv, (Go.convert src dst x').run P w = .ok cv w ∧ VR ρ v cv := by
  unfold aconvert at h
  split at h
  · rename_i id off len cap
    obtain ⟨L, off', cap', hL, rfl, h1, h2, h3, h4, h5⟩ := hx.slice_inv
    split at h
    · rename_i e hs hd
      split at h
      · rename_i hu8
        simp only [Option.map_eq_some_iff] at h
        obtain ⟨bs, hb, rfl⟩ := h
        refine ⟨_, ?_, .flat _ rfl⟩
        rw [run_convert_bytes_string w src dst e _ _ _ hs hu8 hd]
        by_cases h0 : len = 0
        · subst h0
          simp [bytesL] at hb; subst hb
          have := run_bytesToString (P := P) w ⟨L.cb, L.base + off', none⟩ 0 cap' [] (by simp [loadCells, loadCellsFrom])
          exact this
        · rw [if_neg h0] at hb
          cases hc : cellsAt H id off len with
          | none => simp [hc] at hb
          | some as =>
            simp only [hc, Option.bind_some] at hb
            obtain ⟨ns, rfl, rfl⟩ := bytesL_map as bs hb
            obtain ⟨cs, g1, g2, g3, g4⟩ := cells_sim r hL hc
            have hflat : ∀ ns : List Int, flatL (ns.map (Value.int .u8)) = true := by
              intro ns; induction ns with
              | nil => rfl
              | cons n ns ih => simp [flatL, Abs.flat, ih]
            have : cs = ns.map (Value.int .u8) := g3.flat_eq (hflat ns)
            subst this
            have ho : off' = off := h3 (by omega)
            subst ho
            have hl := run_loadCells_list (P := P) w ⟨L.cb, L.base + off', none⟩ (ns.map (Value.int .u8)) (fun j v hj => by rw [addr_add]; exact g4 j v hj)
            rw [g1] at hl
            have := run_bytesToString (P := P) w ⟨L.cb, L.base + off', none⟩ len cap' ns hl
            rw [this, foldl_bytes]
      · cases h
    · cases h
  · rename_i len cap
    obtain ⟨rfl, rfl, aa, rfl⟩ := hx.cut_inv
    split at h
    · rename_i e hs hd
      split at h
      · rename_i hu8
        simp only [and_self, if_true, Option.some.injEq] at h
        subst h
        refine ⟨_, ?_, .flat _ rfl⟩
        rw [run_convert_bytes_string w src dst e _ _ _ hs hu8 hd]
        exact run_bytesToString (P := P) w aa 0 0 [] (by simp [loadCells, loadCellsFrom])
      · cases h
    · cases h
  · split at h
    · rename_i hf
      obtain ⟨hp, hfl⟩ := flatRes_some h
      exact ⟨v, by rw [hx.flat_eq hf]; exact purely_run' w hp, .flat _ hfl⟩
    · cases h


/-! Slices -/
theorem boundV_sim {P : Program} {ρ : Ren} {x x' : Value} {y y' n : Nat} (h : boundV x y = some n) (hx : VR ρ x x') (hy : y ≤ y') (code : BoundsCode) (w : World) :
    (Instr.sliceBound x' y' code).run P w = .ok n w ∧ n ≤ y := by
  unfold boundV at h
  split at h
  · rename_i k i
    split at h
    · rename_i hi
      injection h with h; subst h
      have := hx.int_inv; subst this
      refine ⟨?_, by omega⟩
      have h2 : 0 ≤ i ∧ i ≤ (y' : Int) := ⟨hi.1, by omega⟩
      simp [Instr.sliceBound, asIntOf, h2]
    · cases h
  · cases h

/-- The bounds of a slice expression; the capacity may be a greater one. -/
theorem boundsV_sim {P : Program} {ρ : Ren} {len cap cap' : Nat} {lo hi mx : Option Value} {lo' hi' mx' : Option Value} {b : Nat × Nat × Nat} (h : boundsV len cap lo hi mx = some b)
    (hlo : ∀ v, lo = some v → ∃ v', lo' = some v' ∧ VR ρ v v') (hlo0 : lo = none → lo' = none) (hhi : ∀ v, hi = some v → ∃ v', hi' = some v' ∧ VR ρ v v') (hhi0 : hi = none → hi' = none)
    (hmx : ∀ v, mx = some v → ∃ v', mx' = some v' ∧ VR ρ v v') (hmx0 : mx = none → mx' = none) (hc : cap ≤ cap') (hl : len ≤ cap) (isS : Bool) (w : World) :
    ∃ m', (Instr.sliceBounds isS len cap' lo' hi' mx').run P w = .ok (b.1, b.2.1, m') w ∧ b.1 ≤ b.2.1 ∧ b.2.1 ≤ b.2.2 ∧ b.2.2 ≤ cap ∧ ((mx = none ∧ m' = cap' ∧ b.2.2 = cap) ∨ m' = b.2.2) := by
  unfold boundsV at h
  cases mx with
  | none =>
    simp only at h
    rw [hmx0 rfl]
    cases hi with
    | none =>
      simp only at h
      rw [hhi0 rfl]
      cases lo with
      | none =>
        simp only at h; injection h with h; subst h
        rw [hlo0 rfl]
        exact ⟨cap', by simp [Instr.sliceBounds], by simp, hl, Nat.le_refl _, .inl ⟨rfl, rfl, rfl⟩⟩
      | some v =>
        simp only at h
        cases hb : boundV v len with
        | none => simp [hb] at h
        | some l =>
          simp only [hb] at h; injection h with h; subst h
          obtain ⟨v', e, hv⟩ := hlo v rfl
          subst e
          obtain ⟨h1, h2⟩ := boundV_sim (P := P) hb hv (Nat.le_refl _) .sliceB w
          exact ⟨cap', by simp [Instr.sliceBounds, h1], h2, hl, Nat.le_refl _, .inl ⟨rfl, rfl, rfl⟩⟩
    | some u =>
      simp only at h
      obtain ⟨u', e, hu⟩ := hhi u rfl
      subst e
      cases hbu : boundV u cap with
      | none => simp [hbu] at h
      | some hh =>
        simp only [hbu] at h
        obtain ⟨g1, g2⟩ := boundV_sim (P := P) hbu hu hc (if isS then .sliceAcap else .sliceAlen) w
        cases lo with
        | none =>
          simp only at h; injection h with h; subst h
          rw [hlo0 rfl]
          exact ⟨cap', by simp [Instr.sliceBounds, g1], by simp, g2, Nat.le_refl _, .inl ⟨rfl, rfl, rfl⟩⟩
        | some v =>
          simp only at h
          cases hb : boundV v hh with
          | none => simp [hb] at h
          | some l =>
            simp only [hb] at h; injection h with h; subst h
            obtain ⟨v', e, hv⟩ := hlo v rfl
            subst e
            obtain ⟨h1, h2⟩ := boundV_sim (P := P) hb hv (Nat.le_refl _) .sliceB w
            exact ⟨cap', by simp [Instr.sliceBounds, g1, h1], h2, g2, Nat.le_refl _, .inl ⟨rfl, rfl, rfl⟩⟩
  | some x =>
    simp only at h
    obtain ⟨x', e, hx⟩ := hmx x rfl
    subst e
    cases hbx : boundV x cap with
    | none => simp [hbx] at h
    | some m =>
      simp only [hbx] at h
      obtain ⟨k1, k2⟩ := boundV_sim (P := P) hbx hx hc (if isS then .slice3Acap else .slice3Alen) w
      cases hi with
      | none => simp at h
      | some u =>
        simp only at h
        obtain ⟨u', e, hu⟩ := hhi u rfl
        subst e
        cases hbu : boundV u m with
        | none => simp [hbu] at h
        | some hh =>
          simp only [hbu] at h
          obtain ⟨g1, g2⟩ := boundV_sim (P := P) hbu hu (Nat.le_refl _) .slice3B w
          cases lo with
          | none =>
            simp only at h; injection h with h; subst h
            rw [hlo0 rfl]
            exact ⟨m, by simp [Instr.sliceBounds, k1, g1], by simp, g2, k2, .inr rfl⟩
          | some v =>
            simp only at h
            cases hb : boundV v hh with
            | none => simp [hb] at h
            | some l =>
              simp only [hb] at h; injection h with h; subst h
              obtain ⟨v', e, hv⟩ := hlo v rfl
              subst e
              obtain ⟨h1, h2⟩ := boundV_sim (P := P) hb hv (Nat.le_refl _) .slice3C w
              exact ⟨m, by simp [Instr.sliceBounds, k1, g1, h1], h2, g2, k2, .inr rfl⟩

theorem slice_sim {P : Program} {B0 : Nat} {ρ : Ren} {H : Heap} {w : World} (r : Rel B0 ρ H w) {t : TypeId} {x x' v : Value} {lo hi mx lo' hi' mx' : Option Value} (h : aslice P t x lo hi mx H = some v) (hx : VR ρ x x')
    (hlo : ∀ v, lo = some v → ∃ v', lo' = some v' ∧ VR ρ v v') (hlo0 : lo = none → lo' = none) (hhi : ∀ v, hi = some v → ∃ v', hi' = some v' ∧ VR ρ v v') (hhi0 : hi = none → hi' = none)
    (hmx : ∀ v, mx = some v → ∃ v', mx' = some v' ∧ VR ρ v v') (hmx0 : mx = none → mx' = none) :
    ∃ cv, (Instr.sliceAt t x' lo' hi' mx').run P w = .ok cv w ∧ VR ρ v cv := by
  unfold aslice at h
  split at h
  · rename_i id off
    obtain ⟨L, hL, rfl⟩ := hx.ptr_inv
    split at h
    · rename_i c n e size hb ha
      simp only [Option.map_eq_some_iff] at h
      obtain ⟨b, hbv, rfl⟩ := h
      obtain ⟨inf, hu, hi2, hs⟩ := arrT_some ha
      simp only at hu hi2 hs
      subst hs
      obtain ⟨m', hrun, h1, h2, h3, h4⟩ := boundsV_sim (P := P) hbv hlo hlo0 hhi hhi0 hmx hmx0 (Nat.le_refl n) (Nat.le_refl n) false w
      have hm : m' = b.2.2 := by rcases h4 with ⟨_, a, b⟩ | a <;> omega
      subst hm
      have hk := r.kind id L c _ hL hb
      refine ⟨.slice (some ⟨L.cb, L.base + (if b.2.2 = b.1 then off else off + b.1 * inf.size), none⟩) (b.2.1 - b.1) (b.2.2 - b.1), ?_,
        .slice _ _ _ _ _ _ L hL (by omega) (Nat.le_refl _) (fun _ => rfl) (fun _ => ⟨rfl, rfl⟩) (fun es he => by rw [hk] at he; cases he)⟩
      simp only [Instr.sliceAt, Sem.run_bind, run_under hu, Result.andThen_ok, Instr.sureAddr, Sem.run_pure, hrun, run_size hi2]
      split <;> simp [addr_add, Nat.add_assoc]
    · cases h
  · rename_i id off len cap
    obtain ⟨L, off', cap', hL, rfl, g1, g2, g3, g4, g5⟩ := hx.slice_inv
    split at h
    · rename_i c md e size bytes hb ha
      simp only [Option.bind_eq_some_iff] at h
      obtain ⟨b, hbv, h⟩ := h
      split at h
      · rename_i hfit
        simp only [Option.some.injEq] at h
        subst h
        obtain ⟨inf, hu, hi2, hs, _⟩ := elemT_some ha
        simp only at hu hi2 hs
        subst hs
        have hk := r.kind id L c _ hL hb
        obtain ⟨m', hrun, h1, h2, h3, h4⟩ := boundsV_sim (P := P) hbv hlo hlo0 hhi hhi0 hmx hmx0 g2 g1 true w
        have hm : b.2.2 ≤ m' ∧ m' ≤ cap' := by rcases h4 with ⟨_, a, b⟩ | a <;> omega
        refine ⟨.slice (some ⟨L.cb, L.base + (if m' = b.1 then off' else off' + b.1 * inf.size), none⟩) (b.2.1 - b.1) (m' - b.1), ?_,
          .slice _ _ _ _ _ _ L hL (by omega) (by omega) ?_ ?_ ?_⟩
        · simp only [Instr.sliceAt, Sem.run_bind, run_under hu, Result.andThen_ok, Instr.slice, Sem.run_pure, hrun, run_size hi2]
          split <;> simp [addr_add, Nat.add_assoc]
        · intro hpos
          rw [if_neg (by omega), if_neg (by omega), g3 (by omega)]
        · intro hf
          obtain ⟨q1, q2⟩ := g4 hf
          have : m' = b.2.2 := by rcases h4 with ⟨_, a, b⟩ | a <;> omega
          subst this; subst q2
          exact ⟨rfl, rfl⟩
        · intro es hg
          have := g5 es hg
          rw [hk] at hg
          subst hg
          rcases hfit with hfit | hfit
          rotate_left
          · rw [hfit]
            have : m' * es ≤ cap' * es := Nat.mul_le_mul_right _ hm.2
            split <;> simp <;> omega
          simp [Md.fits] at hfit
          subst hfit
          have h6 : (m' - b.1) * inf.size + b.1 * inf.size = m' * inf.size := by rw [← Nat.add_mul]; congr 1; omega
          have h7 : m' * inf.size ≤ cap' * inf.size := Nat.mul_le_mul_right _ hm.2
          split
          · rename_i he; subst he; simp; omega
          · omega
      · cases h
    · cases h
  · rename_i len cap
    obtain ⟨rfl, rfl, aa, rfl⟩ := hx.cut_inv
    split at h
    · rename_i y ha
      simp only [and_self, if_true, Option.map_eq_some_iff] at h
      obtain ⟨b, hbv, rfl⟩ := h
      obtain ⟨inf, hu, hi2, hs, _⟩ := elemT_some ha
      obtain ⟨m', hrun, h1, h2, h3, h4⟩ := boundsV_sim (P := P) hbv hlo hlo0 hhi hhi0 hmx hmx0 (Nat.le_refl 0) (Nat.le_refl 0) true w
      have hm : m' = 0 ∧ b.1 = 0 ∧ b.2.1 = 0 := by rcases h4 with ⟨_, a, b⟩ | a <;> omega
      refine ⟨.slice (some aa) 0 0, ?_, .cut aa⟩
      simp only [Instr.sliceAt, Sem.run_bind, run_under hu, Result.andThen_ok, Instr.slice, Sem.run_pure, hrun, run_size hi2]
      obtain ⟨q1, q2, q3⟩ := hm
      simp [q1, q2, q3]
    · cases h
  · rename_i len cap
    have := hx.flat_eq rfl; subst this
    cases ha : elemT P t with
    | none => simp [ha] at h
    | some y =>
      obtain ⟨e, size, bytes⟩ := y
      simp only [ha] at h
      split at h
      rotate_left
      · cases h
      rename_i hl
      simp only [Option.map_eq_some_iff] at h
      obtain ⟨b, hbv, rfl⟩ := h
      obtain ⟨inf, hu, hi2, hs, _⟩ := elemT_some ha
      simp only at hu hi2 hs
      obtain ⟨m', hrun, h1, h2, h3, h4⟩ := boundsV_sim (P := P) hbv hlo hlo0 hhi hhi0 hmx hmx0 (Nat.le_refl cap) hl true w
      have hm : m' = b.2.2 := by rcases h4 with ⟨_, a, b⟩ | a <;> omega
      subst hm
      refine ⟨.slice none (b.2.1 - b.1) (b.2.2 - b.1), ?_, .flat _ rfl⟩
      simp only [Instr.sliceAt, Sem.run_bind, run_under hu, Result.andThen_ok, Instr.slice, Sem.run_pure, hrun, run_size hi2]
      split <;> simp
  · cases h
end Go.Abs
/- The abstract machine: maps read, lengths; all that reads, in one theorem. -/
namespace Go.Abs
open Go Go.RowKit
set_option linter.unusedVariables false
set_option linter.unusedSimpArgs false

theorem MR.length_eq {ρ : Ren} : ∀ {es : List (Value × Value)} {ms : List MapEntry}, MR ρ es ms → ms.length = es.length
  | _, _, .nil => rfl
  | _, _, .cons k v m l ms h1 h2 h3 => by simp [MR.length_eq h3]
theorem MR.get {ρ : Ren} : ∀ {es : List (Value × Value)} {ms : List MapEntry}, MR ρ es ms → ∀ (i : Nat) (e : Value × Value), es[i]? = some e → ∃ m, ms[i]? = some m ∧ VR ρ e.1 m.key ∧ VR ρ e.2 m.val
  | _, _, .nil, i, e, h => by simp at h
  | _, _, .cons k v m l ms h1 h2 h3, 0, e, h => by simp at h; subst h; exact ⟨m, by simp, h1, h2⟩
  | _, _, .cons k v m l ms h1 h2 h3, i + 1, e, h => by
    obtain ⟨m', g1, g2⟩ := MR.get h3 i e (by simpa using h)
    exact ⟨m', by simpa using g1, g2⟩

/-- What a search tells of rows that stand to one another: the same place. -/
def SameAt (ms : List MapEntry) (i : Nat) : Option (Nat × Value) → Option (Nat × Value) → Prop
  | none, none => True
  | some (j, _), some (j', v') => j' = j ∧ i ≤ j ∧ ∃ m, ms[j - i]? = some m ∧ m.val = v'
  | _, _ => False

theorem findNow_sim {ρ : Ren} (kind : TypeDesc) (k : Value) : ∀ {es : List (Value × Value)} {ms : List MapEntry}, MR ρ es ms → keyFlat es = true → ∀ i,
    match Instr.findNow kind k (asEntries es) i with
    | none => Instr.findNow kind k ms i = none
    | some r => ∃ r', Instr.findNow kind k ms i = some r' ∧ SameAt ms i r r' := by
  intro es ms h
  induction h with
  | nil => intro _ i; simp [asEntries, Instr.findNow, SameAt]
  | cons k0 v0 m l ms h1 h2 h3 ih =>
    intro hk i
    simp only [keyFlat, List.all_cons, Bool.and_eq_true] at hk
    have hkey : m.key = k0 := h1.flat_eq hk.1
    have ih := ih (by simpa [keyFlat] using hk.2) (i + 1)
    simp only [asEntries, List.map_cons, Instr.findNow, hkey]
    cases hs : Instr.sameNow kind k k0 with
    | none => simp
    | some b =>
      cases b with
      | true => simp only; exact ⟨_, rfl, rfl, Nat.le_refl _, m, by simp, rfl⟩
      | false =>
        simp only
        simp only [asEntries] at ih
        split
        · rename_i e; rw [e] at ih; exact ih
        · rename_i r e
          rw [e] at ih
          obtain ⟨r', e', hr⟩ := ih
          refine ⟨r', e', ?_⟩
          cases r with
          | none => cases r' with
            | none => trivial
            | some y => cases hr
          | some x => cases r' with
            | none => cases hr
            | some y =>
              obtain ⟨g1, g2, m', g3, g4⟩ := hr
              refine ⟨g1, by omega, m', ?_, g4⟩
              rw [show x.1 - i = (x.1 - (i + 1)) + 1 by omega]
              simpa using g3

theorem findAsking_sim {P : Program} {ρ : Ren} (kt : TypeId) (k : Value) : ∀ {es : List (Value × Value)} {ms : List MapEntry}, MR ρ es ms → keyFlat es = true → ∀ i r,
    purely P (Instr.findAsking kt k (asEntries es) i) = some r → ∃ r', purely P (Instr.findAsking kt k ms i) = some r' ∧ SameAt ms i r r' := by
  intro es ms h
  induction h with
  | nil =>
    intro _ i r hr
    simp only [asEntries, List.map_nil, Instr.findAsking, purely_pure, Option.some.injEq] at hr
    subst hr
    exact ⟨none, by simp [Instr.findAsking, purely_pure], trivial⟩
  | cons k0 v0 m l ms h1 h2 h3 ih =>
    intro hk i r hr
    simp only [keyFlat, List.all_cons, Bool.and_eq_true] at hk
    have hkey : m.key = k0 := h1.flat_eq hk.1
    simp only [asEntries, List.map_cons, Instr.findAsking, purely_bind] at hr ⊢
    rw [hkey]
    cases he : purely P (Op.equal kt k k0) with
    | none => simp [he] at hr
    | some b =>
      simp only [he, Option.bind_some] at hr ⊢
      cases b with
      | true =>
        simp only [if_true, purely_pure, Option.some.injEq] at hr ⊢
        subst hr
        exact ⟨_, rfl, rfl, Nat.le_refl _, m, by simp, rfl⟩
      | false =>
        simp only [Bool.false_eq_true, if_false] at hr ⊢
        obtain ⟨r', e', hs⟩ := ih (by simpa [keyFlat] using hk.2) (i + 1) r (by simpa [asEntries] using hr)
        refine ⟨r', e', ?_⟩
        cases r with
        | none => cases r' with
          | none => trivial
          | some y => cases hs
        | some x => cases r' with
          | none => cases hs
          | some y =>
            obtain ⟨g1, g2, m', g3, g4⟩ := hs
            refine ⟨g1, by omega, m', ?_, g4⟩
            rw [show x.1 - i = (x.1 - (i + 1)) + 1 by omega]
            simpa using g3

theorem findKey_sim {P : Program} {ρ : Ren} (kt : TypeId) (k : Value) {es : List (Value × Value)} {ms : List MapEntry} (h : MR ρ es ms) (hk : keyFlat es = true) {r : Option (Nat × Value)}
    (hr : purely P (Instr.findKey kt k (asEntries es)) = some r) : ∃ r', purely P (Instr.findKey kt k ms) = some r' ∧ SameAt ms 0 r r' := by
  unfold Instr.findKey at hr ⊢
  simp only [purely_bind] at hr ⊢
  cases hu : purely P (underlying kt) with
  | none => simp [hu] at hr
  | some d =>
    simp only [hu, Option.bind_some] at hr ⊢
    have := findNow_sim d k h hk 0
    cases hn : Instr.findNow d k (asEntries es) 0 with
    | none =>
      rw [hn] at this hr
      simp only at this hr
      rw [this]
      exact findAsking_sim kt k h hk 0 r hr
    | some q =>
      rw [hn] at this hr
      simp only [purely_pure, Option.some.injEq] at this hr
      subst hr
      obtain ⟨r', e, hs⟩ := this
      rw [e]
      exact ⟨r', rfl, hs⟩

theorem find_sim {P : Program} {ρ : Ren} {kt : TypeId} {k : Value} {es : List (Value × Value)} {ms : List MapEntry} (h : MR ρ es ms) {r : Option Nat} (hr : findT P kt k es = some r) (w : World) :
    flat k = true ∧ (Instr.checkKey ms.isEmpty 10000 kt k).run P w = .ok () w ∧ (Instr.checkKey false 10000 kt k).run P w = .ok () w ∧
    ∃ r', (Instr.findKey kt k ms).run P w = .ok r' w ∧ (match r, r' with
      | none, none => True
      | some i, some (j, v) => j = i ∧ ∃ m, ms[i]? = some m ∧ m.val = v
      | _, _ => False) := by
  unfold findT at hr
  split at hr
  · rename_i hf
    obtain ⟨hf1, hf2⟩ := hf
    cases h1 : purely P (Instr.checkKey es.isEmpty 10000 kt k) with
    | none => simp [h1] at hr
    | some u =>
      cases h2 : purely P (Instr.checkKey false 10000 kt k) with
      | none => simp [h1, h2] at hr
      | some u' =>
        simp only [h1, h2, Option.map_eq_some_iff] at hr
        obtain ⟨q, hq, rfl⟩ := hr
        obtain ⟨r', e, hs⟩ := findKey_sim kt k h hf2 hq
        have he : ms.isEmpty = es.isEmpty := by
          have := h.length_eq
          cases ms <;> cases es <;> simp at this ⊢
        refine ⟨hf1, by rw [he]; exact purely_run' w h1, purely_run' w h2, r', purely_run' w e, ?_⟩
        cases q with
        | none => cases r' with
          | none => trivial
          | some y => cases hs
        | some x => cases r' with
          | none => cases hs
          | some y =>
            obtain ⟨g1, g2, m, g3, g4⟩ := hs
            exact ⟨g1, m, by simpa using g3, g4⟩
  · cases hr

theorem mapT_some {P : Program} {t : TypeId} {x : TypeId × TypeId} (h : mapT P t = some x) : P.underlying t = some (.map x.1 x.2) := by
  unfold mapT at h
  split at h
  · rename_i k e hu; injection h with h; subst h; exact hu
  · cases h

theorem aget_sim {P : Program} {ρ : Ren} {t : TypeId} {es : List (Value × Value)} {k k' v : Value} {ok : Bool} (h : aget P t es k ok = some v) (hk : VR ρ k k') {ms : Array MapEntry} (hm : MR ρ es ms.toList)
    (x' : Value) (w : World) (hx : (x' = .map none ∧ ms = #[]) ∨ ∃ r cl, x' = .map (some r) ∧ w.heap[r]? = some (.map ms cl)) :
    ∃ cv, (Instr.lookup t x' k' ok).run P w = .ok cv w ∧ VR ρ v cv := by
  unfold aget at h
  cases hT : mapT P t with
  | none => simp [hT] at h
  | some y =>
    obtain ⟨key, elem⟩ := y
    simp only [hT] at h
    have hu := mapT_some hT
    simp only at hu
    cases hf : findT P key k es with
    | none => simp [hf] at h
    | some r =>
      simp only [hf] at h
      obtain ⟨hfl, hc, _, r', hr, hrel⟩ := find_sim hm hf w
      have hkk : k' = k := hk.flat_eq hfl
      subst hkk
      have hie : ms.isEmpty = ms.toList.isEmpty := by simp
      have hc' : (Instr.checkKey ms.isEmpty 10000 key k').run P w = .ok () w := by rw [hie]; exact hc
      have go : ∀ (res : Value), (∀ tail : Option (Nat × Value) → Sem Value, (tail r').run P w = .ok res w → (do
            Instr.checkKey ms.isEmpty 10000 key k'
            tail (← Instr.findKey key k' ms.toList) : Sem Value).run P w = .ok res w) := by
        intro res tail ht
        simp only [Sem.run_bind, hc', Result.andThen_ok, hr, ht]
      have fin : ∀ (res : Value), ((match r' with
          | some (_, v) => pure (if ok then .tuple #[v, .bool true] else v)
          | none => do let z ← zeroValue elem; pure (if ok then .tuple #[z, .bool false] else z) : Sem Value).run P w = .ok res w) → (Instr.lookup t x' k' ok).run P w = .ok res w := by
        intro res ht
        rcases hx with ⟨e1, e2⟩ | ⟨r0, cl, e1, e2⟩
        · subst e1; subst e2
          unfold Instr.lookup
          simp only [Sem.run_bind, run_under hu, Result.andThen_ok, Sem.run_pure, hc', hr]
          cases r' with
          | none => simpa using ht
          | some q => simpa using ht
        · subst e1
          unfold Instr.lookup
          have hg : (getObj r0).run P w = .ok (.map ms cl) w := by simp [getObj, Sem.run, e2]
          simp only [Sem.run_bind, run_under hu, Result.andThen_ok, Sem.run_pure, hg, hc', hr]
          cases r' with
          | none => simpa using ht
          | some q => simpa using ht
      cases r with
      | some i =>
        cases r' with
        | none => cases hrel
        | some q =>
          obtain ⟨j, u⟩ := q
          obtain ⟨rfl, m, hmi, rfl⟩ := hrel
          simp only [Option.map_eq_some_iff] at h
          obtain ⟨e, he, rfl⟩ := h
          obtain ⟨m', hm', g1, g2⟩ := hm.get j e he
          rw [hmi] at hm'; injection hm' with hm'; subst hm'
          cases ok with
          | true => exact ⟨.tuple #[m.val, .bool true], fin _ (by simp), .tuple _ _ (.cons _ _ _ _ g2 (.cons _ _ _ _ (.flat _ rfl) .nil))⟩
          | false => exact ⟨m.val, fin _ (by simp), g2⟩
      | none =>
        cases r' with
        | some q => cases hrel
        | none =>
          simp only [Option.map_eq_some_iff] at h
          obtain ⟨z, hz, rfl⟩ := h
          obtain ⟨z1, z2⟩ := run_zero (w := w) hz
          cases ok with
          | true => exact ⟨.tuple #[z, .bool false], fin _ (by simp [z1]), .tuple _ _ (.cons _ _ _ _ (.flat _ z2) (.cons _ _ _ _ (.flat _ rfl) .nil))⟩
          | false => exact ⟨z, fin _ (by simp [z1]), .flat _ z2⟩

theorem lookup_sim {P : Program} {B0 : Nat} {ρ : Ren} {H : Heap} {w : World} (r : Rel B0 ρ H w) {t : TypeId} {x x' k k' v : Value} {ok : Bool} (h : alookup P t x k ok H = some v) (hx : VR ρ x x') (hk : VR ρ k k') :
    ∃ cv, (Instr.lookup t x' k' ok).run P w = .ok cv w ∧ VR ρ v cv := by
  unfold alookup at h
  split at h
  · have := hx.flat_eq rfl; subst this
    exact aget_sim h hk (ms := #[]) .nil _ w (.inl ⟨rfl, rfl⟩)
  · rename_i id
    obtain ⟨L, hL, rfl⟩ := hx.map_inv
    split at h
    · rename_i es hb
      obtain ⟨_, ms, cl, hm, hr⟩ := r.maps id L es hL hb
      exact aget_sim h hk hr _ w (.inr ⟨L.cb, cl, rfl, hm⟩)
    · cases h
  · cases h

theorem len_sim {P : Program} {B0 : Nat} {ρ : Ren} {H : Heap} {w : World} (r : Rel B0 ρ H w) {t ty : TypeId} {x x' v : Value} (h : alen P t x H = some v) (hx : VR ρ x x') :
    ∃ cv, (Builtin.len_ #[t] ty #[x']).run P w = .ok cv w ∧ VR ρ v cv := by
  unfold alen at h
  split at h
  · rename_i id
    obtain ⟨L, hL, rfl⟩ := hx.map_inv
    split at h
    · rename_i es y hb hT
      injection h with h; subst h
      obtain ⟨_, ms, cl, hm, hr⟩ := r.maps id L es hL hb
      refine ⟨.int .i64 es.length, ?_, .flat _ rfl⟩
      have hu := mapT_some hT
      have hl : ms.size = es.length := by have := hr.length_eq; simpa using this
      simp [Builtin.len_, run_under hu, getObj, Sem.run, hm, goInt, hl]
    · cases h
  · have := hx.flat_eq rfl; subst this
    simp only [Option.map_eq_some_iff] at h
    obtain ⟨y, hT, rfl⟩ := h
    exact ⟨_, by simp [Builtin.len_, run_under (mapT_some hT), goInt], .flat _ rfl⟩
  · rename_i a n c
    simp only [Option.map_eq_some_iff] at h
    obtain ⟨y, hT, rfl⟩ := h
    obtain ⟨inf, hu, _⟩ := elemT_some hT
    refine ⟨.int .i64 n, ?_, .flat _ rfl⟩
    cases hx with
    | flat => simp [Builtin.len_, run_under hu, goInt]
    | slice => simp [Builtin.len_, run_under hu, goInt]
    | cut => simp [Builtin.len_, run_under hu, goInt]
  · rename_i s
    have := hx.string_inv; subst this
    split at h
    · rename_i hu
      injection h with h; subst h
      exact ⟨_, by simp [Builtin.len_, run_under hu, goInt], .flat _ rfl⟩
    · cases h
  · rename_i cs
    obtain ⟨b, rfl, _⟩ := hx.agg_inv
    simp only [Option.map_eq_some_iff] at h
    obtain ⟨y, hT, rfl⟩ := h
    obtain ⟨inf, hu, _⟩ := arrT_some hT
    exact ⟨_, by simp [Builtin.len_, run_under hu, goInt], .flat _ rfl⟩
  · rename_i a
    have hp : ∃ b, x' = .pointer b := by cases hx <;> exact ⟨_, rfl⟩
    obtain ⟨b, rfl⟩ := hp
    split at h
    · rename_i arr hu
      simp only [Option.map_eq_some_iff] at h
      obtain ⟨y, hT, rfl⟩ := h
      obtain ⟨inf, hu2, _⟩ := arrT_some hT
      exact ⟨_, by simp [Builtin.len_, run_under hu, run_under hu2, goInt], .flat _ rfl⟩
    · rename_i n e hu
      injection h with h; subst h
      exact ⟨_, by simp [Builtin.len_, run_under hu, goInt], .flat _ rfl⟩
    · cases h
  · cases h

theorem opt_map {ρ : Ren} {ev cev : Operand → Value} {x : Option Operand} (h : ∀ y, x = some y → VR ρ (ev y) (cev y)) :
    (∀ v, x.map ev = some v → ∃ v', x.map cev = some v' ∧ VR ρ v v') ∧ (x.map ev = none → x.map cev = none) := by
  cases x with
  | none => simp
  | some y => simp; exact h y rfl

/-- What reads. -/
theorem read_sim {P : Program} {ev : Operand → Value} {o : Oper} {H H' : Heap} {v : Value} (hk : kindOf o.op = .read) (h : aop P ev o H = some (.val v H')) :
    H' = H ∧ ∀ (B0 : Nat) (ρ : Ren) (w : World) (cev : Operand → Value), Rel B0 ρ H w → OpsVR ρ ev cev o → ∃ cv, (execOp cev o).run P w = .ok (.value cv) w ∧ VR ρ v cv := by
  obtain ⟨dst, op, type, pos, after, guard⟩ := o
  cases op <;> simp only [kindOf] at hk <;> try (cases hk)
  case load t a =>
    simp only [aop, Option.map_eq_some_iff] at h
    obtain ⟨c, hc, h⟩ := h
    injection h with h1 h2; subst h1; subst h2
    refine ⟨rfl, fun B0 ρ w cev r hv => ?_⟩
    obtain ⟨cv, g1, g2⟩ := load_sim r hc (hv a (by simp [Op.operands]))
    exact ⟨cv, by simp [execOp, g1], g2⟩
  case convert s d x =>
    simp only [aop, Option.map_eq_some_iff] at h
    obtain ⟨c, hc, h⟩ := h
    injection h with h1 h2; subst h1; subst h2
    refine ⟨rfl, fun B0 ρ w cev r hv => ?_⟩
    obtain ⟨cv, g1, g2⟩ := convert_sim r hc (hv x (by simp [Op.operands]))
    exact ⟨cv, by simp [execOp, g1], g2⟩
  case slice t x lo hi mx =>
    simp only [aop, Option.map_eq_some_iff] at h
    obtain ⟨c, hc, h⟩ := h
    injection h with h1 h2; subst h1; subst h2
    refine ⟨rfl, fun B0 ρ w cev r hv => ?_⟩
    have a1 := opt_map (ρ := ρ) (ev := ev) (cev := cev) (x := lo) fun y hy => hv y (by simp [Op.operands, hy])
    have a2 := opt_map (ρ := ρ) (ev := ev) (cev := cev) (x := hi) fun y hy => hv y (by simp [Op.operands, hy])
    have a3 := opt_map (ρ := ρ) (ev := ev) (cev := cev) (x := mx) fun y hy => hv y (by simp [Op.operands, hy])
    obtain ⟨cv, g1, g2⟩ := slice_sim r hc (hv x (by simp [Op.operands])) a1.1 a1.2 a2.1 a2.2 a3.1 a3.2
    exact ⟨cv, by simp [execOp, g1], g2⟩
  case lookup t x k ok =>
    simp only [aop, Option.map_eq_some_iff] at h
    obtain ⟨c, hc, h⟩ := h
    injection h with h1 h2; subst h1; subst h2
    refine ⟨rfl, fun B0 ρ w cev r hv => ?_⟩
    obtain ⟨cv, g1, g2⟩ := lookup_sim r hc (hv x (by simp [Op.operands])) (hv k (by simp [Op.operands]))
    exact ⟨cv, by simp [execOp, g1], g2⟩
  case call c =>
    obtain ⟨callee, args, ts⟩ := c
    cases callee with
    | value f => simp [kindOf] at hk
    | invoke r n => simp [kindOf] at hk
    | builtin b =>
      cases b <;> simp [kindOf] at hk
      simp only [aop] at h
      split at h
      · rename_i x t hx ht
        simp only [Option.map_eq_some_iff] at h
        obtain ⟨c, hc, h⟩ := h
        injection h with h1 h2; subst h1; subst h2
        refine ⟨rfl, fun B0 ρ w cev r hv => ?_⟩
        have hargs := VRs_map (ρ := ρ) args (ev := ev) (cev := cev) fun y hy => hv y (by simp [Op.operands, Call.operands, hy])
        rw [hx] at hargs
        have hcs : ∃ x', (args.map cev).toList = [x'] ∧ VR ρ x x' := by
          generalize (args.map cev).toList = l at hargs
          cases hargs with
          | cons _ b _ _ h1 h2 => cases h2 with
            | nil => exact ⟨b, rfl, h1⟩
        obtain ⟨x', hx', hxr⟩ := hcs
        obtain ⟨cv, g1, g2⟩ := len_sim (ty := type) r hc hxr
        refine ⟨cv, ?_, g2⟩
        rw [exec_builtin cev _ .len args ts rfl]
        have e1 : args.map cev = #[x'] := by rw [← Array.toArray_toList (xs := args.map cev), hx']
        have e2 : ts = #[t] := by rw [← Array.toArray_toList (xs := ts), ht]
        rw [e1, e2]
        simp [builtin, g1]
      · cases h
end Go.Abs
/- The abstract machine: operations that make memory, beside the model's. -/
namespace Go.Abs
open Go Go.RowKit
set_option linter.unusedVariables false
set_option linter.unusedSimpArgs false

theorem repeatL_length (z : List Value) : ∀ n, (repeatL z n).length = n * z.length
  | 0 => by simp [repeatL]
  | n + 1 => by rw [repeatL, List.length_append, repeatL_length z n, Nat.add_mul]; omega
theorem repeatL_get (z : List Value) (hz : 0 < z.length) : ∀ (n i : Nat), i < n * z.length → (repeatL z n)[i]? = z[i % z.length]?
  | 0, i, h => by simp at h
  | n + 1, i, h => by
    rw [repeatL]
    by_cases hi : i < z.length
    · rw [List.getElem?_append_left hi, Nat.mod_eq_of_lt hi]
    · rw [List.getElem?_append_right (by omega), repeatL_get z hz n _ (by rw [Nat.add_mul] at h; omega)]
      congr 1
      rw [← Nat.mod_eq_sub_mod (by omega)]
theorem repeat_range (z : Array Value) (n : Nat) (hz : 0 < z.size) : (Array.range (n * z.size)).map (fun i => z[i % z.size]!) = (⟨repeatL z.toList n⟩ : Array Value) := by
  apply Array.toList_inj.1
  apply List.ext_getElem?
  intro i
  have hl : (repeatL z.toList n).length = n * z.size := by rw [repeatL_length]; simp
  by_cases hi : i < n * z.size
  · have hm : i % z.size < z.size := Nat.mod_lt _ hz
    show _ = (repeatL z.toList n)[i]?
    rw [repeatL_get z.toList (by simpa using hz) n i (by simpa using hi)]
    have e : z[i % z.size]! = z[i % z.size] := getElem!_pos z (i % z.size) hm
    simp [hi, Array.getElem?_eq_getElem hm, e]
  · show _ = (repeatL z.toList n)[i]?
    rw [List.getElem?_eq_none (by simp; omega), List.getElem?_eq_none (by omega)]
theorem flat_cells {z : Value} (h : flat z = true) : flatL z.cells.toList = true := by
  cases z <;> simp only [Value.cells] <;> first
    | simpa [flatL] using h
    | (rename_i x; cases x; simpa [Abs.flat, flatA] using h)
theorem flatL_append : ∀ (a b : List Value), flatL a = true → flatL b = true → flatL (a ++ b) = true
  | [], _, _, hb => hb
  | x :: xs, b, ha, hb => by
    simp [flatL] at ha ⊢
    exact ⟨ha.1, flatL_append xs b ha.2 hb⟩
theorem flat_repeat {z : Value} (h : flat z = true) : ∀ n, flatL (repeatL z.cells.toList n) = true
  | 0 => rfl
  | n + 1 => by rw [repeatL]; exact flatL_append _ _ (flat_cells h) (flat_repeat h n)
theorem run_asInt {P : Program} (w : World) (k : IntKind) (n : Int) : (asInt (.int k n)).run P w = .ok n w := by
  simp [asInt, asIntOf]

theorem get_push_self (H : Heap) (b : Blk) : (H.push b).get H.n = some b := by rw [Heap.get_push, if_pos rfl]

/-- What makes a row: what is asked of it. -/
def Makes (P : Program) (o : Oper) (ev : Operand → Value) (id : Nat) (b : Blk) (v : Value) : Prop :=
  ∀ (H2 : Heap) (B0 : Nat) (ρ : Ren) (w : World) (cev : Operand → Value), Rel B0 ρ H2 w → id < H2.n → ρ id = none → H2.get id = some b → OpsVR ρ ev cev o →
    ∃ cv w' L, (execOp cev o).run P w = .ok (.value cv) w' ∧ VR (ρ.upd id L) v cv ∧ Rel B0 (ρ.upd id L) H2 w' ∧ Below B0 w w'

theorem makes_cells {P : Program} {o : Oper} {ev : Operand → Value} {id : Nat} {c : List Value} {v : Value} (n : Nat) (hn : n ≤ c.length ∨ True)
    (h : ∀ (ρ : Ren) (w : World) (cev : Operand → Value), OpsVR ρ ev cev o → ∃ (cs : Array Value) (t : TypeId) (cv : Value), (execOp cev o).run P w = .ok (.value cv) (w.alloc (.cells cs t)) ∧ VRs ρ c cs.toList ∧
      ∀ ρ' : Ren, ρ' id = some ⟨w.heap.size, 0, cs.size, .fix⟩ → VR ρ' v cv) : Makes P o ev id (.cells c .fix) v := by
  intro H2 B0 ρ w cev r hid hno hb hv
  obtain ⟨cs, t, cv, g1, g2, g3⟩ := h ρ w cev hv
  have hl := g2.length_eq
  obtain ⟨k1, k2⟩ := r.new id hid hno c .fix hb (by simp) cs t ⟨w.heap.size, 0, cs.size, .fix⟩ rfl rfl rfl (fun i v hi => by simpa using g2.get i v hi) (by simp at hl; omega) rfl
  exact ⟨cv, _, _, g1, g3 _ (Ren.upd_same _ _ _), k1, (Below.refl _ _).alloc r.low _⟩

theorem newRow_run {P : Program} (w : World) (t : TypeId) (cs : Array Value) : (newRow t cs).run P w = .ok ⟨w.heap.size, 0, none⟩ (w.alloc (.cells cs t)) := by
  simp [newRow]

theorem fill_size : ∀ (place : Nat → Option (Nat × Nat)) (ps : List (Nat × Value)) (c out : List Value), fillL place c ps = some out → out.length = c.length := by
  intro place ps
  induction ps with
  | nil => intro c out h; simp [fillL] at h; rw [h]
  | cons p ps ih =>
    intro c out h
    obtain ⟨i, v⟩ := p
    simp only [fillL] at h
    split at h
    · cases h
    · split at h
      · cases h
      · rw [ih _ _ h, writeAt_length]

theorem make_sim {P : Program} {ev : Operand → Value} {o : Oper} {H H' : Heap} {v : Value} (hk : kindOf o.op = .make) (h : aop P ev o H = some (.val v H')) :
    ∃ b, H' = H.push b ∧ Makes P o ev H.n b v := by
  obtain ⟨dst, op, type, pos, after, guard⟩ := o
  cases op <;> simp only [kindOf] at hk <;> try (cases hk)
  case alloc elem =>
    simp only [aop, Option.map_eq_some_iff] at h
    obtain ⟨z, hz, h⟩ := h
    injection h with h1 h2; subst h1; subst h2
    refine ⟨_, rfl, makes_cells 0 (.inr trivial) fun ρ w cev hv => ?_⟩
    obtain ⟨z1, z2⟩ := run_zero (w := w) hz
    refine ⟨z.cells, elem, .pointer (some ⟨w.heap.size, 0, none⟩), ?_, (VR.flat z z2).cells, fun ρ' hρ => .ptr H.n 0 _ hρ⟩
    simp [execOp, Instr.alloc, z1, newVar, newRow_run]
  case box elem x =>
    simp only [aop, Option.some.injEq, ARes.val.injEq] at h
    obtain ⟨h1, h2⟩ := h; subst h1; subst h2
    refine ⟨_, rfl, makes_cells 0 (.inr trivial) fun ρ w cev hv => ?_⟩
    have hx := hv x (by simp [Op.operands])
    refine ⟨(cev x).cells, elem, .pointer (some ⟨w.heap.size, 0, none⟩), ?_, hx.cells, fun ρ' hρ => .ptr H.n 0 _ hρ⟩
    simp [execOp, Instr.box, newVar, newRow_run]
  case buildSlice t len parts =>
    simp only [aop] at h
    split at h
    · rename_i elem size bytes hT
      split at h
      · rename_i z hz
        split at h
        · rename_i hc
          obtain ⟨hc1, hc2, hc3⟩ := hc
          simp only [Option.map_eq_some_iff] at h
          obtain ⟨c, hcc, h⟩ := h
          injection h with h1 h2; subst h1; subst h2
          obtain ⟨inf, hu, hi, hs, _⟩ := elemT_some hT
          simp only at hu hi hs
          refine ⟨_, rfl, makes_cells 0 (.inr trivial) fun ρ w cev hv => ?_⟩
          obtain ⟨z1, z2⟩ := run_zero (w := w) hz
          have hself : VRs ρ (repeatL z.cells.toList len) (repeatL z.cells.toList len) := VRs.refl_flat ρ _ (flat_repeat z2 len)
          obtain ⟨out, ho, hr⟩ := fill_sim (ρ := ρ) _ _ _ _ _ c hcc hself (parts_fst parts ev cev) (parts_snd (ρ := ρ) parts (f := ev) (g := cev) (fun x hx => hv x (by simpa [Op.operands] using hx)))
          have hol : out.length = len * size := by
            have := hr.length_eq
            have := fill_size _ _ _ _ hcc
            rw [repeatL_length] at this
            simp only [Array.length_toList] at this
            rw [← hc2]; omega
          refine ⟨⟨out⟩, elem, .slice (some ⟨w.heap.size, 0, none⟩) len len, ?_, hr, fun ρ' hρ => ?_⟩
          · have hz3 : ((if len * size = 0 then pure #[] else do pure (← zeroValue elem).cells : Sem (Array Value))).run P w = .ok (if len * size = 0 then #[] else z.cells) w := by
              split
              · rfl
              · simp [z1]
            have hfill : Instr.fill (fun i => some (i * size, size)) ((Array.range (len * size)).map ((if len * size = 0 then #[] else z.cells)[· % (if len * size = 0 then (#[] : Array Value) else z.cells).size]!)) (parts.map fun (i, x) => (i, cev x)).toList = some ⟨out⟩ := by
              rw [← ho]
              congr 1
              by_cases h0 : len * size = 0
              · have : len = 0 := by
                  rcases Nat.mul_eq_zero.1 h0 with h' | h'
                  · exact h'
                  · omega
                subst this
                simp [repeatL]
              · rw [if_neg h0, ← hc2]
                exact repeat_range z.cells len (by omega)
            have hlim : ¬ (len * size > 2 ^ 24) := by omega
            subst hs
            simp only [execOp, Instr.buildSlice, Sem.run_bind, run_under hu, Result.andThen_ok, run_size hi, if_neg hlim]
            by_cases h0 : len * inf.size = 0
            · rw [if_pos h0] at hfill ⊢
              simp only [Sem.run_pure, Result.andThen_ok, Sem.run_bind, hfill]
              simp [newRow_run]
            · rw [if_neg h0] at hfill ⊢
              simp only [Sem.run_pure, Result.andThen_ok, Sem.run_bind, z1, hfill]
              simp [newRow_run]
          · exact .slice H.n 0 len len 0 len _ hρ (Nat.le_refl _) (Nat.le_refl _) (fun _ => rfl) (fun _ => ⟨rfl, rfl⟩) (fun es he => by cases he)
        · cases h
      · cases h
    · cases h
  case makeMap t r =>
    have fin : ∀ (cev : Operand → Value) (w : World), (execOp cev ⟨dst, .makeMap t r, type, pos, after, guard⟩).run P w = .ok (.value (.map (some w.heap.size))) (w.alloc (.map #[] 0)) → True := fun _ _ _ => trivial
    have mk : ∀ H2 : Heap, ∀ (B0 : Nat) (ρ : Ren) (w : World), Rel B0 ρ H2 w → H.n < H2.n → ρ H.n = none → H2.get H.n = some (.map []) →
        ∃ L : Loc, VR (ρ.upd H.n L) (.map (some H.n)) (.map (some w.heap.size)) ∧ Rel B0 (ρ.upd H.n L) H2 (w.alloc (.map #[] 0)) ∧ Below B0 w (w.alloc (.map #[] 0)) := by
      intro H2 B0 ρ w rr hid hno hb
      obtain ⟨k1, k2⟩ := rr.newMap H.n hid hno hb ⟨w.heap.size, 0, 0, .fix⟩ rfl
      exact ⟨_, .map H.n ⟨w.heap.size, 0, 0, .fix⟩ (Ren.upd_same _ _ _), k1, (Below.refl _ _).alloc rr.low _⟩
    simp only [aop] at h
    split at h
    · injection h with h; injection h with h1 h2; subst h1; subst h2
      refine ⟨_, rfl, fun H2 B0 ρ w cev rr hid hno hb hv => ?_⟩
      obtain ⟨L, g1, g2, g3⟩ := mk H2 B0 ρ w rr hid hno hb
      exact ⟨_, _, L, by simp [execOp, Instr.makeMap], g1, g2, g3⟩
    · rename_i x
      split at h
      · rename_i y k n hT hx
        injection h with h; injection h with h1 h2; subst h1; subst h2
        refine ⟨_, rfl, fun H2 B0 ρ w cev rr hid hno hb hv => ?_⟩
        obtain ⟨L, g1, g2, g3⟩ := mk H2 B0 ρ w rr hid hno hb
        have hcx : cev x = .int k n := by
          have := hv x (by simp [Op.operands])
          rw [hx] at this; exact this.int_inv
        exact ⟨_, _, L, by simp [execOp, Instr.makeMap, run_under (mapT_some hT), hcx, run_asInt], g1, g2, g3⟩
      · cases h
  case makeSlice t l c =>
    simp only [aop] at h
    split at h
    · rename_i elem size bytes k1 len k2 cap hT hl hc
      split at h
      · rename_i z hz
        split at h
        · rename_i hcond
          obtain ⟨c1, c2, c3, c4, c5, c6⟩ := hcond
          injection h with h; injection h with h1 h2; subst h1; subst h2
          obtain ⟨inf, hu, hi, hs, hbts⟩ := elemT_some hT
          simp only at hu hi hs hbts
          refine ⟨_, rfl, makes_cells 0 (.inr trivial) fun ρ w cev hv => ?_⟩
          obtain ⟨z1, z2⟩ := run_zero (w := w) hz
          have hcl : cev l = .int k1 len := by have := hv l (by simp [Op.operands]); rw [hl] at this; exact this.int_inv
          have hcc : cev c = .int k2 cap := by have := hv c (by simp [Op.operands]); rw [hc] at this; exact this.int_inv
          have hself : VRs ρ (repeatL z.cells.toList cap.toNat) (repeatL z.cells.toList cap.toNat) := VRs.refl_flat ρ _ (flat_repeat z2 _)
          refine ⟨⟨repeatL z.cells.toList cap.toNat⟩, elem, .slice (some ⟨w.heap.size, 0, none⟩) len.toNat cap.toNat, ?_, hself, fun ρ' hρ => ?_⟩
          · have w1 : IntKind.i64.wrap len = len := IntWalk.i64_in _ (by omega)
            have w2 : IntKind.i64.wrap cap = cap := IntWalk.i64_in _ (by omega)
            have hnl : (decide (cap < 0) || decide ((inf.bytes : Int) * cap > 2 ^ 48) || decide (len < 0) || decide (len > cap)) = false := by
              rw [← hbts]
              have : (bytes : Int) * cap = cap * bytes := Int.mul_comm _ _
              simp; omega
            subst hs
            have hrange : (Array.range (cap.toNat * inf.size)).map (fun i => z.cells[i % z.cells.size]!) = (⟨repeatL z.cells.toList cap.toNat⟩ : Array Value) := by
              rw [← c5]; exact repeat_range z.cells _ (by omega)
            simp only [execOp, Instr.makeSlice, hcl, hcc, Sem.run_bind, run_under hu, Result.andThen_ok, run_asInt, Sem.run_pure, run_info hi, w1, w2, hnl, Bool.false_eq_true, if_false]
            by_cases h0 : cap.toNat * inf.size = 0
            · have : cap.toNat = 0 := by
                rcases Nat.mul_eq_zero.1 h0 with h' | h'
                · exact h'
                · omega
              have er : ∀ f : Nat → Value, (Array.range 0).map f = (⟨[]⟩ : Array Value) := fun f => by apply Array.toList_inj.1; simp
              simp [run_size hi, this, newRow_run, repeatL, er]
            · simp only [run_size hi, if_neg h0, z1, Sem.run_bind, Result.andThen_ok, Sem.run_pure, run_askRoom, hrange, newRow_run]
          · exact .slice H.n 0 _ _ 0 _ _ hρ (by omega) (Nat.le_refl _) (fun _ => rfl) (fun _ => ⟨rfl, rfl⟩) (fun es he => by cases he)
        · cases h
      · cases h
    · cases h
  case call c =>
    obtain ⟨callee, args, ts⟩ := c
    cases callee with
    | value f => simp at hk
    | invoke r n => simp at hk
    | builtin b => cases b <;> simp at hk
end Go.Abs
/- The abstract machine: stores, copies, rows that grow, beside the model's. -/
namespace Go.Abs
open Go Go.RowKit
set_option linter.unusedVariables false
set_option linter.unusedSimpArgs false

theorem scal_all {ρ : Ren} : ∀ {a b : List Value}, VRs ρ a b → a.all scal = true → ∀ v ∈ b, v.oneCell' = true
  | _, _, .nil, _ => by simp
  | _, _, .cons x y l m h1 h2, h => by
    simp only [List.all_cons, Bool.and_eq_true] at h
    intro v hv
    rcases List.mem_cons.1 hv with e | hv
    · subst e; rw [← scal_one, h1.scal]; exact h.1
    · exact scal_all h2 h.2 v hv

theorem storeAt_sim {P : Program} {B0 : Nat} {ρ : Ren} {H H' : Heap} {w : World} (r : Rel B0 ρ H w) {id off : Nat} {L : Loc} {vs ws : List Value} (hL : ρ id = some L) (h : astoreAt id off vs H = some H') (hv : VRs ρ vs ws) :
    (storeCells ⟨L.cb, L.base + off, none⟩ ws).run P w = .ok () (w.setCells L.cb (L.base + off) ws) ∧ Rel B0 ρ H' (w.setCells L.cb (L.base + off) ws) ∧ Fut B0 ρ H w ρ H' (w.setCells L.cb (L.base + off) ws) := by
  unfold astoreAt at h
  split at h
  · rename_i c md hb
    split at h
    · rename_i hc
      obtain ⟨c1, c2, c3⟩ := hc
      injection h with h; subst h
      have hl := hv.length_eq
      obtain ⟨o1, o2, o3⟩ := r.own id L c md hL hb c1
      refine ⟨?_, r.write hL hb c1 c2 hv, Fut.write r hL hb c1 _ _ _⟩
      have := run_storeCells_cells (P := P) L.cb (L.base + off) ws 0 w (fun j hj => (o3 _ (by omega) (by omega)).1) (fun j hj => (o3 _ (by omega) (by omega)).2) (scal_all hv c3)
      simpa using this
    · cases h
  · cases h

theorem store_sim {P : Program} {B0 : Nat} {ρ : Ren} {H H' : Heap} {w : World} (r : Rel B0 ρ H w) {t : TypeId} {a a' v v' : Value} (h : astore P t a v H = some H') (ha : VR ρ a a') (hv : VR ρ v v') :
    ∃ w', (Instr.storeAt t a' v').run P w = .ok () w' ∧ Rel B0 ρ H' w' ∧ Fut B0 ρ H w ρ H' w' := by
  unfold astore at h
  split at h
  · rename_i id off
    obtain ⟨L, hL, rfl⟩ := ha.ptr_inv
    split at h
    · rename_i hs
      have hc := hv.cells
      obtain ⟨h1, h2, h3⟩ := storeAt_sim (P := P) r hL h hc
      refine ⟨_, ?_, h2, h3⟩
      unfold sizeT at hs
      cases hi : P.info? t with
      | none => simp [hi] at hs
      | some i =>
        simp [hi] at hs
        have hl : v'.cells.size = i.size := by have := hc.length_eq; simp at this; omega
        simp [Instr.storeAt, Instr.sureAddr, storeVar, run_size hi, hl, h1]
    · cases h
  · cases h

theorem first_sim {P : Program} {B0 : Nat} {ρ : Ren} {H : Heap} {w : World} (r : Rel B0 ρ H w) {size n m : Nat} {x x' : Value} {xs : List Value} (h : firstL H size n x = some xs) (hx : VR ρ x x') (hl : lenV x = some m) (hn : n ≤ m) :
    ∃ cs : List Value, (Builtin.firstCells size n x').run P w = .ok ⟨cs⟩ w ∧ VRs ρ xs cs ∧ (Builtin.lenOf x').run P w = .ok m w ∧ xs.length = n * size := by
  unfold firstL at h
  split at h
  · rename_i id off len cap
    obtain ⟨L, off', cap', hL, rfl, g1, g2, g3, g4, g5⟩ := hx.slice_inv
    simp only [lenV, Option.some.injEq] at hl; subst hl
    split at h
    · rename_i h0
      injection h with h; subst h; subst h0
      exact ⟨[], by simp [Builtin.firstCells, loadCells, loadCellsFrom], .nil, by simp [Builtin.lenOf], by simp⟩
    · rename_i h0
      obtain ⟨cs, k1, k2, k3, k4⟩ := cells_sim r hL h
      have ho : off' = off := g3 (by omega)
      subst ho
      have hld := run_loadCells_list (P := P) w ⟨L.cb, L.base + off', none⟩ cs (fun j v hj => by rw [addr_add]; exact k4 j v hj)
      rw [k1] at hld
      exact ⟨cs, by simp [Builtin.firstCells, hld], k3, by simp [Builtin.lenOf], k2⟩
  · rename_i len cap
    have := hx.flat_eq rfl; subst this
    simp only [lenV, Option.some.injEq] at hl; subst hl
    split at h
    · rename_i h0
      injection h with h; subst h; subst h0
      exact ⟨[], by simp [Builtin.firstCells], .nil, by simp [Builtin.lenOf], by simp⟩
    · cases h
  · rename_i len cap
    obtain ⟨rfl, rfl, aa, rfl⟩ := hx.cut_inv
    simp only [lenV, Option.some.injEq] at hl; subst hl
    split at h
    · rename_i h0
      injection h with h; subst h; subst h0
      exact ⟨[], by simp [Builtin.firstCells, loadCells, loadCellsFrom], .nil, by simp [Builtin.lenOf], by simp⟩
    · cases h
  · rename_i s
    have := hx.string_inv; subst this
    simp only [lenV, Option.some.injEq] at hl; subst hl
    split at h
    · rename_i hc
      injection h with h; subst h
      refine ⟨(s.extract 0 n).data.toList.map fun b => .int .u8 b.toNat, ?_, VRs.refl_flat ρ _ ?_, by simp [Builtin.lenOf], ?_⟩
      · simp only [Builtin.firstCells, Sem.run_pure]
        congr 1
        apply Array.toList_inj.1
        simp
      · generalize (s.extract 0 n).data.toList = l
        induction l with
        | nil => rfl
        | cons b l ih => simp [flatL, Abs.flat, ih]
      · rw [hc.2]
        simp [ByteArray.extract, ByteArray.copySlice]
        have := hc.1
        have e : s.size = s.data.size := rfl
        omega
    · cases h
  · cases h

theorem isIntT_run {P : Program} {t : TypeId} {b : Bool} (h : isIntT P t = some b) : ∃ d, P.underlying t = some d ∧ (match d with | .int _ => true | _ => false) = b := by
  unfold isIntT at h
  cases hu : P.underlying t with
  | none => simp [hu] at h
  | some d =>
    refine ⟨d, rfl, ?_⟩
    cases d <;> simp [hu] at h <;> subst h <;> rfl

/-- How many cells the kit's rule asks for, at most. -/
theorem growBy_le (n : Nat) : ∀ (k c : Nat), c ≤ 2 * n + 768 → Builtin.growBy n k c ≤ 2 * n + 768
  | 0, c, h => h
  | k + 1, c, h => by
    unfold Builtin.growBy
    split
    · exact h
    · exact growBy_le n k _ (by omega)
theorem nextcap_le (n c : Nat) (h : c < n) : Builtin.nextslicecap n c ≤ 2 * n + 768 := by
  unfold Builtin.nextslicecap
  split
  · omega
  · split
    · omega
    · exact growBy_le n 4 c (by omega)

theorem zeroCells_eq (z : Array Value) (hz : 0 < z.size) (n : Nat) : Builtin.zeroCells z n = (⟨repeatL z.toList n⟩ : Array Value) := repeat_range z n hz
end Go.Abs
/- The abstract machine: rows that grow, beside the model's. -/
namespace Go.Abs
open Go Go.RowKit
set_option linter.unusedVariables false
set_option linter.unusedSimpArgs false

/-- What is appended, in the model. -/
def appended (elem : TypeId) (size n : Nat) (zeros : Bool) (x : Value) : Sem (Array Value) :=
  if !zeros then Builtin.firstCells size n x
  else if n * size = 0 then pure #[]
  else do pure (Builtin.zeroCells (← zeroValue elem).cells n)

theorem new_sim {P : Program} {B0 : Nat} {ρ : Ren} {H : Heap} {elem : TypeId} {inf : TypeInfo} (hi : P.info? elem = some inf) {zeros : Bool} {x x' : Value} {n : Nat} {xs : List Value} (h : newL P elem inf.size inf.bytes zeros x H = some (n, xs)) (hx : VR ρ x x') (hz0 : 0 < inf.size) :
    xs.length = n * inf.size ∧
    (∀ w : World, Rel B0 ρ H w → ∃ cs : List Value, (appended elem inf.size n zeros x').run P w = .ok ⟨cs⟩ w ∧ VRs ρ xs cs) ∧
    (zeros = false → ∀ w : World, Rel B0 ρ H w → (Builtin.lenOf x').run P w = .ok n w) ∧
    (zeros = true → x' = .int .i64 n ∧ (n : Int) * inf.bytes ≤ 2 ^ 44) := by
  unfold newL at h
  cases zeros with
  | false =>
    simp only [Bool.false_eq_true, if_false] at h
    cases hl : lenV x with
    | none => simp [hl] at h
    | some m =>
      simp only [hl, Option.map_eq_some_iff] at h
      obtain ⟨ys, hy, e⟩ := h
      injection e with e1 e2; subst e1; subst e2
      refine ⟨?_, fun w r => ?_, fun _ w r => ?_, fun e => by cases e⟩
      · -- the length
        unfold firstL at hy
        split at hy
        · split at hy
          · rename_i h0; injection hy with hy; subst hy; simp [h0]
          · unfold cellsAt at hy
            split at hy
            · split at hy
              · injection hy with hy; subst hy; simp; omega
              · cases hy
            · cases hy
        · split at hy
          · rename_i h0; injection hy with hy; subst hy; simp [h0]
          · cases hy
        · split at hy
          · rename_i h0; injection hy with hy; subst hy; simp [h0]
          · cases hy
        · split at hy
          · rename_i s hc
            injection hy with hy; subst hy
            rw [hc.2]
            simp [ByteArray.extract, ByteArray.copySlice]
            have := hc.1
            have e : s.size = s.data.size := rfl
            omega
          · cases hy
        · cases hy
      · obtain ⟨cs, k1, k2, k3, k4⟩ := first_sim (P := P) r hy hx hl (Nat.le_refl _)
        exact ⟨cs, by simp [appended, k1], k2⟩
      · obtain ⟨cs, k1, k2, k3, k4⟩ := first_sim (P := P) r hy hx hl (Nat.le_refl _)
        exact k3
  | true =>
    simp only [if_true] at h
    split at h
    · rename_i l z hz
      split at h
      · rename_i hc
        obtain ⟨c1, c2, c3⟩ := hc
        injection h with h; injection h with h1 h2; subst h1; subst h2
        have := hx.int_inv; subst this
        have hcast : ((l.toNat : Nat) : Int) = l := by omega
        refine ⟨by rw [repeatL_length, Array.length_toList, c3], fun w r => ?_, (fun e => by cases e), fun _ => ⟨by rw [hcast], by rw [hcast]; exact c2⟩⟩
        obtain ⟨z1, z2⟩ := run_zero (w := w) hz
        refine ⟨repeatL z.cells.toList l.toNat, ?_, VRs.refl_flat ρ _ (flat_repeat z2 _)⟩
        unfold appended
        simp only [Bool.not_true, Bool.false_eq_true, if_false]
        split
        · rename_i h0
          have : l.toNat = 0 := by
            rcases Nat.mul_eq_zero.1 h0 with h' | h'
            · exact h'
            · omega
          rw [this]; simp [repeatL]
        · simp only [Sem.run_bind, z1, Result.andThen_ok, Sem.run_pure]
          rw [zeroCells_eq _ (by omega)]
      · cases h
    · cases h


theorem isIntT_true {P : Program} {t : TypeId} (h : isIntT P t = some true) : ∃ k, P.underlying t = some (.int k) := by
  obtain ⟨d, hd, e⟩ := isIntT_run h
  cases d <;> simp at e
  exact ⟨_, hd⟩


theorem zeros_run {P : Program} {t : TypeId} {b : Bool} (h : isIntT P t = some b) (w : World) : ∃ d, (underlying t).run P w = .ok d w ∧ (d matches .int _) = b := by
  obtain ⟨d, hd, e⟩ := isIntT_run h
  refine ⟨d, run_under hd, ?_⟩
  cases d <;> exact e

/-- The model's append, in place. -/
theorem append_in {P : Program} {w w' : World} {sType xType elem ty : TypeId} {inf : TypeInfo} {base : Option Addr} {len cap n : Nat} {x' : Value} {zeros : Bool} {cs : List Value}
    (hu : P.underlying sType = some (.slice elem)) (hi : P.info? elem = some inf) (hz : isIntT P xType = some zeros)
    (hn0 : zeros = false → (Builtin.lenOf x').run P w = .ok n w) (hn1 : zeros = true → x' = .int .i64 n ∧ (n : Int) * inf.bytes ≤ 2 ^ 44) (hb : 0 < inf.bytes)
    (ha : (appended elem inf.size n zeros x').run P w = .ok ⟨cs⟩ w) (hc : len + n ≤ cap)
    (hst : (match base with | some a => storeCells (a.add (len * inf.size)) cs | none => pure () : Sem Unit).run P w = .ok () w') :
    (Builtin.append_ #[sType, xType] ty #[.slice base len cap, x']).run P w = .ok (.slice base (len + n) cap) w' := by
  obtain ⟨d, hd, e⟩ := zeros_run hz w
  unfold Builtin.append_
  have g0 : (#[sType, xType] : Array TypeId)[0]? = some sType := rfl
  have g1 : (#[sType, xType] : Array TypeId)[1]? = some xType := rfl
  have g2 : (#[Value.slice base len cap, x'] : Array Value)[0]? = some (.slice base len cap) := rfl
  have g3 : (#[Value.slice base len cap, x'] : Array Value)[1]? = some x' := rfl
  simp only [g0, g1, g2, g3, Sem.run_bind, run_under hu, Result.andThen_ok, run_size hi, hd, e, Sem.run_pure]
  have nt : ∀ d : TypeDesc, (match d with | .int _ => true | _ => false) = (d matches .int _) := fun d => rfl
  cases zeros with
  | false =>
    have h0 := hn0 rfl
    have hni : ∀ k, d = .int k → False := by intro k hk; subst hk; cases e
    simp only [appended, Bool.not_false, if_true] at ha
    simp only [Bool.false_eq_true, if_false, Sem.run_bind, h0, Result.andThen_ok, if_pos hc, Bool.not_false, if_true, ha]
    cases base with
    | none => simp only [Sem.run_pure] at hst ⊢; injection hst with _ hst; rw [hst]
    | some a => simp only at hst; simp only [Sem.run_bind, hst, Result.andThen_ok, Sem.run_pure]
  | true =>
    obtain ⟨k, hk⟩ : ∃ k, d = .int k := by cases d <;> simp at e; exact ⟨_, rfl⟩
    subst hk
    obtain ⟨rfl, hb2⟩ := hn1 rfl
    have hnn : (n : Int) ≤ (n : Int) * inf.bytes := by
      have : (n : Int) * 1 ≤ (n : Int) * inf.bytes := Int.mul_le_mul_of_nonneg_left (by omega) (by omega)
      omega
    have hw : IntKind.i64.wrap (n : Int) = n := IntWalk.i64_in _ (by omega)
    have h1 : ¬ ((n : Int) < 0) := by omega
    have h2 : ¬ ((n : Int) * inf.bytes > 2 ^ 48) := by omega
    simp only [appended, Bool.not_true, Bool.false_eq_true, if_false] at ha
    simp only [Bool.false_eq_true, if_false, Sem.run_bind, Result.andThen_ok, if_pos hc, Bool.not_true, if_true, run_asInt, hw, if_neg h1, run_info hi, if_neg h2, Int.toNat_natCast, Sem.run_pure, ha]
    cases base with
    | none => simp only [Sem.run_pure] at hst ⊢; injection hst with _ hst; rw [hst]
    | some a => simp only at hst; simp only [Sem.run_bind, hst, Result.andThen_ok, Sem.run_pure]

/-- The model's append, into a new row. -/
theorem append_out {P : Program} {w : World} {sType xType elem ty : TypeId} {inf : TypeInfo} {base : Option Addr} {len cap n : Nat} {x' z : Value} {zeros : Bool} {os cs : List Value}
    (hu : P.underlying sType = some (.slice elem)) (hi : P.info? elem = some inf) (hz : isIntT P xType = some zeros)
    (hn0 : zeros = false → (Builtin.lenOf x').run P w = .ok n w) (hn1 : zeros = true → x' = .int .i64 n ∧ (n : Int) * inf.bytes ≤ 2 ^ 44) (hb : 0 < inf.bytes) (hb2 : inf.bytes ≤ 2 ^ 20)
    (hsz : (len + n) * inf.bytes ≤ 2 ^ 44)
    (ha : (appended elem inf.size n zeros x').run P w.drew = .ok ⟨cs⟩ w.drew) (hc : ¬ len + n ≤ cap)
    (ho : (Builtin.firstCells inf.size len (.slice base len cap)).run P w.drew = .ok ⟨os⟩ w.drew) (hzr : (zeroValue elem).run P w.drew = .ok z w.drew) :
    ∃ newCap, len + n ≤ newCap ∧ (Builtin.append_ #[sType, xType] ty #[.slice base len cap, x']).run P w =
      .ok (.slice (some ⟨w.heap.size, 0, none⟩) (len + n) newCap) (w.drew.alloc (.cells (⟨os⟩ ++ ⟨cs⟩ ++ Builtin.zeroCells z.cells (newCap - (len + n))) elem)) := by
  obtain ⟨d, hd, e⟩ := zeros_run hz w
  have hle : len + n ≤ (len + n) * inf.bytes := by
    have := Nat.mul_le_mul_left (len + n) hb
    omega
  refine ⟨(Question.appendCap (len + n) cap elem).cut (w.tape w.drawn (Question.appendCap (len + n) cap elem)), by simp [Question.cut], ?_⟩
  have hnext : ¬ (Builtin.nextslicecap (len + n) cap * inf.bytes > 2 ^ 48) := by
    have h1 := nextcap_le (len + n) cap (by omega)
    have h2 : Builtin.nextslicecap (len + n) cap * inf.bytes ≤ (2 * (len + n) + 768) * inf.bytes := Nat.mul_le_mul_right _ h1
    have h3 : (2 * (len + n) + 768) * inf.bytes = 2 * ((len + n) * inf.bytes) + 768 * inf.bytes := by rw [Nat.add_mul, Nat.mul_assoc]
    omega
  have hmax : ¬ (((len + n : Nat) : Int) > IntKind.i64.max ∧ (zeros = true ∨ inf.bytes = 0)) := by
    have : IntKind.i64.max = 9223372036854775807 := rfl
    omega
  unfold Builtin.append_
  have g0 : (#[sType, xType] : Array TypeId)[0]? = some sType := rfl
  have g1 : (#[sType, xType] : Array TypeId)[1]? = some xType := rfl
  have g2 : (#[Value.slice base len cap, x'] : Array Value)[0]? = some (.slice base len cap) := rfl
  have g3 : (#[Value.slice base len cap, x'] : Array Value)[1]? = some x' := rfl
  simp only [g0, g1, g2, g3, Sem.run_bind, run_under hu, Result.andThen_ok, run_size hi, hd, e, Sem.run_pure]
  have hfo : (Question.appendCap (len + n) cap elem).forced = false := rfl
  cases zeros with
  | false =>
    have h0 := hn0 rfl
    have hni : ∀ k, d = .int k → False := by intro k hk; subst hk; cases e
    simp only [appended, Bool.not_false, if_true] at ha
    simp only [Bool.false_eq_true, if_false, Sem.run_bind, h0, Result.andThen_ok, if_neg hc, Bool.not_false, if_true, run_info hi, if_neg hnext, if_neg hmax, run_choose, hfo, run_askRoom, ho, ha, World.drew_eq, Sem.run_pure, hzr, newRow_run, World.size_drew]
    have hmax' := hmax
    simp only [Bool.false_eq_true] at hmax'
    simp only [if_neg hmax', Sem.run_bind, Result.andThen_ok, if_neg hnext, run_info hi, run_choose, hfo, Bool.false_eq_true, if_false, run_askRoom, ho, ha, World.drew_eq, Sem.run_pure, hzr, newRow_run, World.size_drew]
  | true =>
    obtain ⟨k, hk⟩ : ∃ k, d = .int k := by cases d <;> simp at e; exact ⟨_, rfl⟩
    subst hk
    obtain ⟨rfl, hb3⟩ := hn1 rfl
    have hnn : (n : Int) ≤ (n : Int) * inf.bytes := by
      have : (n : Int) * 1 ≤ (n : Int) * inf.bytes := Int.mul_le_mul_of_nonneg_left (by omega) (by omega)
      omega
    have hw : IntKind.i64.wrap (n : Int) = n := IntWalk.i64_in _ (by omega)
    have h1 : ¬ ((n : Int) < 0) := by omega
    have h2 : ¬ ((n : Int) * inf.bytes > 2 ^ 48) := by omega
    simp only [appended, Bool.not_true, Bool.false_eq_true, if_false] at ha
    simp only [Bool.false_eq_true, if_false, Sem.run_bind, Result.andThen_ok, if_neg hc, Bool.not_true, if_true, run_asInt, hw, if_neg h1, run_info hi, if_neg h2, Int.toNat_natCast, Sem.run_pure]
    have hmax' := hmax
    simp only [true_or, and_true] at hmax' ⊢
    simp only [if_neg hmax', Sem.run_bind, Result.andThen_ok, if_neg hnext, run_info hi, run_choose, hfo, Bool.false_eq_true, if_false, run_askRoom, ho, ha, World.drew_eq, Sem.run_pure, hzr, newRow_run, World.size_drew]
end Go.Abs
/- The abstract machine: append, copy and maps written, beside the model's. -/
namespace Go.Abs
open Go Go.RowKit
set_option linter.unusedVariables false
set_option linter.unusedSimpArgs false

def EffR (P : Program) (B0 : Nat) (ρ : Ren) (H : Heap) (w : World) (v : Value) (H' : Heap) (s : Sem Value) : Prop :=
  ∃ ρ' w' cv, s.run P w = .ok cv w' ∧ VR ρ' v cv ∧ Rel B0 ρ' H' w' ∧ Fut B0 ρ H w ρ' H' w'

theorem fut_new {B0 : Nat} {ρ : Ren} {H : Heap} {w w' : World} {b : Blk} {L : Loc} (hb : Below B0 w w') : Fut B0 ρ H w (ρ.upd H.n L) (H.push b) w' :=
  ⟨by simp, fun id h => Ren.upd_ne _ _ (by omega), hb, fun id h _ => by rw [Heap.get_push, if_neg (by omega)]⟩

/-- A new row, behind a draw. -/
theorem grown_new {B0 : Nat} {ρ : Ren} {H : Heap} {w : World} (r : Rel B0 ρ H w) {as cs : List Value} (hv : VRs ρ as cs) (rest : Array Value) (elem : TypeId) (es need newCap : Nat) (hlen : as.length = need * es) (hrest : rest.size = (newCap - need) * es) (hle : need ≤ newCap) (es0 : 0 < es) :
    ∃ L, VR (ρ.upd H.n L) (slc H.n 0 need need) (.slice (some ⟨w.heap.size, 0, none⟩) need newCap) ∧ Rel B0 (ρ.upd H.n L) (H.push (.cells as (.grown es))) (w.drew.alloc (.cells (⟨cs⟩ ++ rest) elem)) ∧
      Fut B0 ρ H w (ρ.upd H.n L) (H.push (.cells as (.grown es))) (w.drew.alloc (.cells (⟨cs⟩ ++ rest) elem)) := by
  have hl := hv.length_eq
  have hno : ρ H.n = none := by
    cases h : ρ H.n with
    | none => rfl
    | some L => have := (r.dom _ L h).1; omega
  have hmul : need * es + (newCap - need) * es = newCap * es := by rw [← Nat.add_mul]; congr 1; omega
  have hsz : ((⟨cs⟩ : Array Value) ++ rest).size = newCap * es := by simp [hrest, hl, hlen, hmul]
  have rl := (r.drew.late (.cells as (.grown es)))
  obtain ⟨k1, k2⟩ := rl.new H.n (by simp) hno as (.grown es) (get_push_self _ _) (by simp) (⟨cs⟩ ++ rest) elem ⟨w.heap.size, 0, newCap * es, .grown es⟩ rfl rfl (by rw [hsz])
    (fun i v hi => by
      obtain ⟨v', hv', hr⟩ := hv.get i v hi
      refine ⟨v', ?_, hr⟩
      have : i < cs.length := by
        rcases Nat.lt_or_ge i cs.length with h' | h'
        · exact h'
        · rw [List.getElem?_eq_none h'] at hv'; cases hv'
      rw [Array.getElem?_append_left (by simpa using this)]
      simpa using hv') (by rw [hsz]; omega) rfl
  refine ⟨_, .slice H.n 0 need need 0 newCap _ (Ren.upd_same _ _ _) (Nat.le_refl _) hle (fun _ => rfl) (fun e => by cases e) (fun es' e => by injection e with e; subst e; simp), k1, ?_⟩
  exact fut_new (((Below.refl B0 w).drew).alloc r.low _)

theorem agrow_sim {P : Program} {B0 : Nat} {ρ : Ren} {H H' : Heap} {w : World} (r : Rel B0 ρ H w) {sType xType elem ty : TypeId} {inf : TypeInfo} {len cap n : Nat} {base : Option Addr} {s' x' z v : Value} {zeros : Bool} {xs : List Value}
    (hu : P.underlying sType = some (.slice elem)) (hi : P.info? elem = some inf) (hz : isIntT P xType = some zeros)
    (hxl : xs.length = n * inf.size) (hsc : xs.all scal = true) (happ : ∀ w : World, Rel B0 ρ H w → ∃ cs : List Value, (appended elem inf.size n zeros x').run P w = .ok ⟨cs⟩ w ∧ VRs ρ xs cs)
    (hn0 : zeros = false → ∀ w : World, Rel B0 ρ H w → (Builtin.lenOf x').run P w = .ok n w) (hn1 : zeros = true → x' = .int .i64 n ∧ (n : Int) * inf.bytes ≤ 2 ^ 44)
    (hzt : zeroT P elem = some z) (hzs : z.cells.size = inf.size) (hb : 0 < inf.bytes) (hb2 : inf.bytes ≤ 2 ^ 20) (hsz0 : 0 < inf.size) (hsz : (len + n) * inf.bytes ≤ 2 ^ 44)
    (hs : VR ρ (.slice base len cap) s') (h : agrow elem inf.size len n base cap xs H = some (v, H')) :
    EffR P B0 ρ H w v H' (Builtin.append_ #[sType, xType] ty #[s', x']) := by
  obtain ⟨cs, ha, hv⟩ := happ w r
  obtain ⟨cs2, ha2, hv2⟩ := happ w.drew r.drew
  obtain ⟨z1, z2⟩ := run_zero (w := w.drew) hzt
  have hn0' : zeros = false → (Builtin.lenOf x').run P w = .ok n w := fun e => hn0 e w r
  have hzc : ∀ k, (Builtin.zeroCells z.cells k).size = k * inf.size := by intro k; unfold Builtin.zeroCells; simp [hzs]
  unfold agrow at h
  split at h
  · rename_i hle
    split at h
    · rename_i hn
      subst hn
      injection h with h; injection h with h1 h2; subst h1; subst h2
      have hcs : cs = [] := by have := hv.length_eq; rw [hxl] at this; simpa using this
      subst hcs
      cases base with
      | none =>
        have := hs.flat_eq rfl; subst this
        exact ⟨ρ, w, _, append_in hu hi hz hn0' hn1 hb ha hle (by simp), by simpa using hs, r, Fut.refl _ _ _ _⟩
      | some a =>
        obtain ⟨b', rfl, hcap⟩ : ∃ b', s' = b' ∧ ∃ a' cap', b' = .slice (some a') len cap' ∧ cap ≤ cap' := by
          cases hs with
          | flat _ hf => simp [Abs.flat] at hf
          | slice id off _ _ off' cap' L hL g1 g2 => exact ⟨_, rfl, _, _, rfl, g2⟩
          | cut a => exact ⟨_, rfl, _, _, rfl, Nat.le_refl _⟩
        obtain ⟨a', cap', rfl, hcc⟩ := hcap
        exact ⟨ρ, w, _, append_in hu hi hz hn0' hn1 hb ha (by omega) (by simp [storeCells]), by simpa using hs, r, Fut.refl _ _ _ _⟩
    · rename_i hn
      split at h
      · rename_i id off
        obtain ⟨L, off', cap', hL, rfl, g1, g2, g3, g4, g5⟩ := hs.slice_inv
        simp only [Option.map_eq_some_iff] at h
        obtain ⟨H1, hst, h⟩ := h
        injection h with h1 h2; subst h1; subst h2
        have ho : off' = off := g3 (by omega)
        subst ho
        obtain ⟨k1, k2, k3⟩ := storeAt_sim (P := P) r hL hst hv
        refine ⟨ρ, _, _, append_in hu hi hz hn0' hn1 hb ha (by omega) (by show (storeCells (Addr.add _ _) cs).run P w = _; rw [addr_add, Nat.add_assoc]; exact k1), ?_, k2, k3⟩
        exact .slice id off' (len + n) cap off' cap' L hL hle g2 g3 g4 g5
      · cases h
  · rename_i hgt
    split at h
    · -- a nil slice
      split at h
      · rename_i h0
        injection h with h; injection h with h1 h2; subst h1; subst h2; subst h0
        have := hs.flat_eq rfl; subst this
        obtain ⟨newCap, hge, hrun⟩ := append_out (ty := ty) hu hi hz hn0' hn1 hb hb2 hsz ha2 (by omega) (base := none) (os := []) (by simp [Builtin.firstCells]) z1
        obtain ⟨L, v1, v2, v3⟩ := grown_new r hv2 (Builtin.zeroCells z.cells (newCap - (0 + n))) elem inf.size n newCap hxl (by rw [hzc]; simp) (by omega) hsz0
        refine ⟨_, _, _, hrun, by simpa using v1, ?_, ?_⟩
        · simpa using v2
        · simpa using v3
      · cases h
    · rename_i id off
      obtain ⟨L, off', cap', hL, rfl, g1, g2, g3, g4, g5⟩ := hs.slice_inv
      have first : ∀ old, firstL H inf.size len (.slice (some ⟨id, off, none⟩) len cap) = some old → ∀ w : World, Rel B0 ρ H w → ∃ os : List Value, (Builtin.firstCells inf.size len (.slice (some ⟨L.cb, L.base + off', none⟩) len cap')).run P w = .ok ⟨os⟩ w ∧ VRs ρ old os ∧ old.length = len * inf.size := by
        intro old ho w rw
        obtain ⟨os, q1, q2, q3, q4⟩ := first_sim (P := P) rw ho hs rfl (Nat.le_refl _)
        exact ⟨os, q1, q2, q4⟩
      split at h
      · rename_i c hbk
        simp only [Option.map_eq_some_iff] at h
        obtain ⟨old, ho, h⟩ := h
        injection h with h1 h2; subst h1; subst h2
        have hk := r.kind id L c _ hL hbk
        obtain ⟨hcap, hoff⟩ := g4 hk
        subst hcap; subst hoff
        obtain ⟨os, q1, q2, q3⟩ := first old ho w.drew r.drew
        obtain ⟨newCap, hge, hrun⟩ := append_out (ty := ty) hu hi hz hn0' hn1 hb hb2 hsz ha2 hgt q1 z1
        obtain ⟨L2, v1, v2, v3⟩ := grown_new r (q2.append hv2) (Builtin.zeroCells z.cells (newCap - (len + n))) elem inf.size (len + n) newCap (by rw [List.length_append, q3, hxl, Nat.add_mul]) (by rw [hzc]) hge hsz0
        have e : (⟨os⟩ : Array Value) ++ ⟨cs2⟩ = ⟨os ++ cs2⟩ := by simp
        rw [e] at hrun
        exact ⟨_, _, _, hrun, v1, v2, v3⟩
      · rename_i c es hbk
        split at h
        · rename_i hes
          subst hes
          simp only [Option.map_eq_some_iff] at h
          obtain ⟨old, ho, h⟩ := h
          injection h with h1 h2; subst h1; subst h2
          have hk := r.kind id L c _ hL hbk
          have g5' := g5 _ hk
          have hno : ρ H.n = none := by
            cases h : ρ H.n with
            | none => rfl
            | some L => have := (r.dom _ L h).1; omega
          have hid : id < H.n := (r.dom id L hL).1
          have hmul : len * inf.size + n * inf.size = (len + n) * inf.size := (Nat.add_mul _ _ _).symm
          have hpush : ∀ b, (H.set id .dead).push b = (H.push b).set id .dead := by
            intro b
            unfold Heap.set Heap.push
            have : H.n + 1 - 1 - id = (H.n - 1 - id) + 1 := by omega
            simp only [hid, if_pos (show id < H.n + 1 by omega), if_true, this, List.set_cons_succ]
          by_cases hin : len + n ≤ cap'
          · -- in place
            obtain ⟨os, q1, q2, q3⟩ := first old ho w r
            obtain ⟨o1, o2, o3⟩ := r.own id L c _ hL hbk (by simp)
            have hfit : off' + (len + n) * inf.size ≤ L.ext := by
              have : (len + n) * inf.size ≤ cap' * inf.size := Nat.mul_le_mul_right _ hin
              omega
            have hcl := hv.length_eq
            have hol := q2.length_eq
            have hstore := run_storeCells_cells (P := P) L.cb (L.base + off' + len * inf.size) cs 0 w (fun j hj => (o3 _ (by omega) (by omega)).1) (fun j hj => (o3 _ (by omega) (by omega)).2) (scal_all hv hsc)
            rw [Nat.add_zero] at hstore
            have hrun := append_in (ty := ty) (base := some ⟨L.cb, L.base + off', none⟩) (len := len) (cap := cap') (w' := w.setCells L.cb (L.base + off' + len * inf.size) cs) hu hi hz hn0' hn1 hb ha hin (by show (storeCells (Addr.add _ _) cs).run P w = _; rw [addr_add]; exact hstore)
            have hsp := (r.late (.cells (old ++ xs) (.grown inf.size))).spoil (id := id) (c := c) (md := .grown inf.size) hL (by rw [Heap.get_push, if_neg (by omega)]; exact hbk) (by simp) (o := L.base + off' + len * inf.size) cs (by omega) (by omega)
            obtain ⟨k1, k2⟩ := hsp.add (n := H.n) (by simp) hno (c := old ++ xs) (md := .grown inf.size) (by rw [get_set_other _ _ (by omega)]; exact get_push_self _ _) (by simp)
              ⟨L.cb, L.base + off', L.ext - off', .grown inf.size⟩ (by rw [size_setCells]; exact (r.dom id L hL).2) o1 (by simp only [List.length_append]; omega)
              (fun o h1 h2 => by
                simp only at h1 h2
                obtain ⟨x, y⟩ := o3 o (by omega) (by omega)
                rw [World.frozen?_setCells]
                refine ⟨?_, y⟩
                by_cases hin2 : L.base + off' + len * inf.size ≤ o ∧ o < L.base + off' + len * inf.size + cs.length
                · obtain ⟨k, rfl⟩ : ∃ k, o = L.base + off' + len * inf.size + k := ⟨o - (L.base + off' + len * inf.size), by omega⟩
                  rw [World.cell?_setCells_in L.cb cs _ w (fun m hm => (o3 _ (by omega) (by omega)).1) k (by omega)]; rfl
                · rw [World.cell?_setCells_out L.cb cs _ w _ (fun _ _ => by simp only; omega)]; exact x) rfl
              (fun i v hi => by
                by_cases hlt : i < old.length
                · rw [List.getElem?_append_left hlt] at hi
                  have hlen0 : 0 < len := by
                    rcases Nat.eq_zero_or_pos len with h' | h'
                    · subst h'; omega
                    · exact h'
                  have ho2 : off' = off := g3 (by omega)
                  subst ho2
                  unfold firstL at ho
                  simp only at ho
                  rw [if_neg (by omega)] at ho
                  obtain ⟨css, p1, p2, p3, p4⟩ := cells_sim r hL ho
                  obtain ⟨v', hv', hr⟩ := p3.get i v hi
                  refine ⟨v', ?_, hr⟩
                  rw [World.cell?_setCells_out L.cb cs _ w _ (fun _ _ => by simp only; omega)]
                  exact p4 i v' hv'
                · rw [List.getElem?_append_right (by omega)] at hi
                  obtain ⟨v', hv', hr⟩ := hv.get _ v hi
                  refine ⟨v', ?_, hr⟩
                  have hil : i - old.length < cs.length := by
                    rcases Nat.lt_or_ge (i - old.length) cs.length with h' | h'
                    · exact h'
                    · rw [List.getElem?_eq_none h'] at hv'; cases hv'
                  have := World.cell?_setCells_in L.cb cs (L.base + off' + len * inf.size) w (fun m hm => (o3 _ (by omega) (by omega)).1) (i - old.length) hil
                  rw [show L.base + off' + i = L.base + off' + len * inf.size + (i - old.length) by omega, this]
                  rw [List.getElem?_eq_getElem hil] at hv'; exact hv')
              (fun i L1 c1 m1 h1 e1 hro => by
                by_cases hid2 : i = id
                · subst hid2
                  rw [get_set_self (b := .cells c (.grown inf.size)) (by rw [Heap.get_push, if_neg (by omega)]; exact hbk)] at e1
                  injection e1 with e1; cases e1
                · rw [get_set_other _ _ hid2] at e1
                  have hin3 := (r.dom i L1 h1).1
                  rw [Heap.get_push, if_neg (by omega)] at e1
                  rcases r.sep i id L1 L c1 m1 c _ hid2 h1 hL e1 hbk hro (by simp) with hs | hs | hs
                  · left; exact fun x => hs x.symm
                  · right; right; simp only; omega
                  · right; left; simp only; omega)
            refine ⟨_, _, _, hrun, ?_, by rw [hpush]; exact k1, ?_⟩
            · refine .slice H.n 0 (len + n) (len + n) 0 cap' _ (Ren.upd_same _ _ _) (Nat.le_refl _) hin (fun _ => rfl) (fun e => by cases e) (fun es' e => ?_)
              injection e with e; subst e
              simp only
              omega
            · refine ⟨by simp, fun i hi => Ren.upd_ne _ _ (by omega), below_setCells _ o1 _ _ _, fun i hi hnone => ?_⟩
              rw [hpush, get_set_other _ _ (by intro e; subst e; rw [hL] at hnone; cases hnone), Heap.get_push, if_neg (by omega)]
          · -- a new row
            obtain ⟨os, q1, q2, q3⟩ := first old ho w.drew r.drew
            obtain ⟨newCap, hge, hrun⟩ := append_out (ty := ty) hu hi hz hn0' hn1 hb hb2 hsz ha2 hin q1 z1
            obtain ⟨L2, v1, v2, v3⟩ := grown_new r (q2.append hv2) (Builtin.zeroCells z.cells (newCap - (len + n))) elem inf.size (len + n) newCap (by rw [List.length_append, q3, hxl, Nat.add_mul]) (by rw [hzc]) hge hsz0
            have e : (⟨os⟩ : Array Value) ++ ⟨cs2⟩ = ⟨os ++ cs2⟩ := by simp
            rw [e] at hrun
            refine ⟨_, _, _, hrun, v1, ?_, ?_⟩
            · rw [hpush]
              exact v2.kill (b := .cells c (.grown inf.size)) (by rw [Heap.get_push, if_neg (by omega)]; exact hbk)
            · refine ⟨by simp, fun i hi => Ren.upd_ne _ _ (by omega), v3.below, fun i hi hnone => ?_⟩
              rw [hpush, get_set_other _ _ (by intro e; subst e; rw [hL] at hnone; cases hnone), Heap.get_push, if_neg (by omega)]
        · cases h
      · cases h
    · cases h
end Go.Abs
/- The abstract machine: effects, in one theorem. -/
namespace Go.Abs
open Go Go.RowKit
set_option linter.unusedVariables false
set_option linter.unusedSimpArgs false

theorem list2 {ρ : Ren} {l : List Value} {a b : Value} (h : VRs ρ [a, b] l) : ∃ a' b', l = [a', b'] ∧ VR ρ a a' ∧ VR ρ b b' := by
  cases h with
  | cons _ a' _ _ h1 h2 => cases h2 with
    | cons _ b' _ _ h3 h4 => cases h4 with
      | nil => exact ⟨a', b', rfl, h1, h3⟩

theorem append_sim {P : Program} {B0 : Nat} {ρ : Ren} {H H' : Heap} {w : World} (r : Rel B0 ρ H w) {ts : Array TypeId} {ty : TypeId} {args args' : Array Value} {v : Value} (h : aappend P ts args H = some (v, H')) (ha : VRs ρ args.toList args'.toList) :
    EffR P B0 ρ H w v H' (Builtin.append_ ts ty args') := by
  unfold aappend at h
  split at h
  · rename_i base len cap x sType xType hargs hts
    split at h
    · rename_i elem size bytes zeros hT hz
      split at h
      · rename_i n xs z hnew hzt
        split at h
        · rename_i hc
          obtain ⟨c1, c2, c3, c4, c5, c6⟩ := hc
          rw [hargs] at ha
          obtain ⟨s', x', he, hs, hx⟩ := list2 ha
          have e1 : args' = #[s', x'] := by rw [← Array.toArray_toList (xs := args'), he]
          have e2 : ts = #[sType, xType] := by rw [← Array.toArray_toList (xs := ts), hts]
          subst e1; subst e2
          obtain ⟨inf, hu, hi, h1, h2⟩ := elemT_some hT
          simp only at hu hi h1 h2
          subst h1; subst h2
          obtain ⟨n1, n2, n3, n4⟩ := new_sim hi hnew hx c4
          exact agrow_sim r hu hi hz n1 c2 n2 n3 n4 hzt c1 c3 c5 c4 c6 hs h
        · cases h
      · cases h
    · cases h
  · cases h

theorem copy_sim {P : Program} {B0 : Nat} {ρ : Ren} {H H' : Heap} {w : World} (r : Rel B0 ρ H w) {ts : Array TypeId} {ty : TypeId} {args args' : Array Value} {v : Value} (h : acopy P ts args H = some (v, H')) (ha : VRs ρ args.toList args'.toList) :
    EffR P B0 ρ H w v H' (Builtin.copy_ ts ty args') := by
  unfold acopy at h
  split at h
  · rename_i base dLen cap x dType trest hargs hts
    rw [hargs] at ha
    obtain ⟨s', x', he, hs, hx⟩ := list2 ha
    have e1 : args' = #[s', x'] := by rw [← Array.toArray_toList (xs := args'), he]
    subst e1
    have e2 : ts[0]? = some dType := by rw [← Array.getElem?_toList, hts]; rfl
    split at h
    · rename_i elem size bytes m hT hl
      obtain ⟨inf, hu, hi, h1, h2⟩ := elemT_some hT
      simp only at hu hi h1 h2
      subst h1; subst h2
      split at h
      · rename_i xs hf
        split at h
        · rename_i hsc
          obtain ⟨cs, q1, q2, q3, q4⟩ := first_sim (P := P) r hf hx hl (Nat.min_le_left _ _)
          have g0 : (#[s', x'] : Array Value)[0]? = some s' := rfl
          have g1 : (#[s', x'] : Array Value)[1]? = some x' := rfl
          split at h
          · rename_i h0
            injection h with h; injection h with h1 h2; subst h1; subst h2; subst h0
            have hcs : cs = [] := by have := q2.length_eq; simpa using this
            subst hcs
            refine ⟨ρ, w, .int .i64 (Nat.min m dLen), ?_, .flat _ rfl, r, Fut.refl _ _ _ _⟩
            have hsl : ∃ b' cap', s' = .slice b' dLen cap' := by cases hs <;> exact ⟨_, _, rfl⟩
            obtain ⟨b', cap', rfl⟩ := hsl
            unfold Builtin.copy_
            simp only [e2, g0, g1, Sem.run_bind, run_under hu, Result.andThen_ok, Sem.run_pure, q3, run_size hi, q1]
            cases b' <;> simp [storeCells, goInt]
          · rename_i hxs
            split at h
            · rename_i id off
              simp only [Option.map_eq_some_iff] at h
              obtain ⟨H1, hst, h⟩ := h
              injection h with h1 h2; subst h1; subst h2
              obtain ⟨L, off', cap', hL, rfl, g1', g2', g3, g4, g5⟩ := hs.slice_inv
              have hne : 0 < Nat.min m dLen := by
                rcases Nat.eq_zero_or_pos (Nat.min m dLen) with h' | h'
                · rw [h'] at q4
                  exact absurd (List.eq_nil_of_length_eq_zero (by rw [q4]; simp)) hxs
                · exact h'
              have hdl : Nat.min m dLen ≤ dLen := Nat.min_le_right _ _
              have ho : off' = off := g3 (by omega)
              subst ho
              obtain ⟨k1, k2, k3⟩ := storeAt_sim (P := P) r hL hst q2
              refine ⟨ρ, _, .int .i64 (Nat.min m dLen), ?_, .flat _ rfl, k2, k3⟩
              unfold Builtin.copy_
              simp only [e2, g0, g1, Sem.run_bind, run_under hu, Result.andThen_ok, Sem.run_pure, q3, run_size hi, q1, k1]
              rfl
            · cases h
        · cases h
      · cases h
    · cases h
  · cases h

theorem MR.append {ρ : Ren} : ∀ {es : List (Value × Value)} {ms : List MapEntry}, MR ρ es ms → ∀ {k v : Value} {m : MapEntry}, VR ρ k m.key → VR ρ v m.val → MR ρ (es ++ [(k, v)]) (ms ++ [m])
  | _, _, .nil, k, v, m, h1, h2 => .cons k v m _ _ h1 h2 .nil
  | _, _, .cons k0 v0 m0 l ms g1 g2 g3, k, v, m, h1, h2 => .cons k0 v0 m0 _ _ g1 g2 (MR.append g3 h1 h2)
theorem MR.set {ρ : Ren} : ∀ {es : List (Value × Value)} {ms : List MapEntry}, MR ρ es ms → ∀ (i : Nat) {k v : Value} {m : MapEntry}, VR ρ k m.key → VR ρ v m.val → MR ρ (es.set i (k, v)) (ms.set i m)
  | _, _, .nil, i, k, v, m, h1, h2 => by simpa using .nil
  | _, _, .cons k0 v0 m0 l ms g1 g2 g3, 0, k, v, m, h1, h2 => .cons k v m _ _ h1 h2 g3
  | _, _, .cons k0 v0 m0 l ms g1 g2 g3, i + 1, k, v, m, h1, h2 => .cons k0 v0 m0 _ _ g1 g2 (MR.set g3 i h1 h2)

theorem update_sim {P : Program} {B0 : Nat} {ρ : Ren} {H H' : Heap} {w : World} (r : Rel B0 ρ H w) {t : TypeId} {x x' k k' v v' : Value} (h : aupdate P t x k v H = some H') (hx : VR ρ x x') (hk : VR ρ k k') (hv : VR ρ v v') :
    ∃ w', (Instr.mapUpdate t x' k' v').run P w = .ok () w' ∧ Rel B0 ρ H' w' ∧ Fut B0 ρ H w ρ H' w' := by
  unfold aupdate at h
  split at h
  · rename_i id
    obtain ⟨L, hL, rfl⟩ := hx.map_inv
    split at h
    · rename_i es hb
      obtain ⟨hlow, ms, cl, hm, hr⟩ := r.maps id L es hL hb
      cases hT : mapT P t with
      | none => simp [hT] at h
      | some y =>
        obtain ⟨key, elem⟩ := y
        simp only [hT] at h
        have hu := mapT_some hT
        simp only at hu
        have hg : (getObj L.cb).run P w = .ok (.map ms cl) w := by simp [getObj, Sem.run, hm]
        have hset : ∀ o, (setObj L.cb o).run P w = .ok () { w with heap := w.heap.setIfInBounds L.cb o } := by intro o; simp [setObj, Sem.run, hm]
        have hfut : ∀ b ms' cl', Fut B0 ρ H w ρ (H.set id b) { w with heap := w.heap.setIfInBounds L.cb (.map ms' cl') } := by
          intro b ms' cl'
          refine ⟨by simp, fun _ _ => rfl, ⟨rfl, rfl, rfl, by simp, fun k hk => ?_⟩, fun i _ hi => get_set_other _ _ (fun e => by subst e; rw [hL] at hi; cases hi)⟩
          simp only
          rw [Array.getElem?_setIfInBounds_ne (by omega)]
        split at h
        · rename_i i hf
          obtain ⟨hfl, _, hc, r', hrun, hrel⟩ := find_sim hr hf w
          have hkk : k' = k := hk.flat_eq hfl
          subst hkk
          cases r' with
          | none => cases hrel
          | some q =>
            obtain ⟨j, u⟩ := q
            obtain ⟨rfl, m, hmi, rfl⟩ := hrel
            split at h
            · rename_i e he
              split at h
              · rename_i hsb
                injection h with h; subst h
                obtain ⟨m', hm', g1, g2⟩ := hr.get j e he
                rw [hmi] at hm'; injection hm' with hm'; subst hm'
                have hmj : ms[j]? = some m := by simpa using hmi
                have hjl : j < ms.size := by
                  rcases Nat.lt_or_ge j ms.size with h' | h'
                  · exact h'
                  · rw [Array.getElem?_eq_none h'] at hmj; cases hmj
                have hme : ms[j] = m := by rw [Array.getElem?_eq_getElem hjl] at hmj; exact Option.some.inj hmj
                have hkf : m.key = e.1 := by
                  refine g1.flat_eq ?_
                  unfold findT at hf
                  split at hf
                  · rename_i hff
                    have := hff.2
                    simp only [keyFlat, List.all_eq_true] at this
                    exact this e (List.mem_of_getElem? he)
                  · cases hf
                have hks : (Instr.keyThatStays m.key k').run P w = .ok k' w := by
                  unfold Instr.keyThatStays
                  rw [hkf, if_pos hsb]; rfl
                refine ⟨_, ?_, r.updMap hL hb (ms.modify j fun e => { e with key := k', val := v' }) cl ?_, hfut _ _ _⟩
                · unfold Instr.mapUpdate
                  simp only [Sem.run_bind, run_under hu, Result.andThen_ok, hg, hc, hrun, hmj, Option.map_some, Option.getD_some, hks, hset]
                · have : (ms.modify j fun e => { e with key := k', val := v' }).toList = ms.toList.set j { m with key := k', val := v' } := by
                    rw [Array.toList_modify]
                    apply List.ext_getElem?
                    intro i
                    rw [List.getElem?_modify, List.getElem?_set]
                    by_cases hij : j = i
                    · subst hij; simp [hjl, hme]
                    · simp [hij]
                  rw [this]
                  exact hr.set j hk hv
              · cases h
            · cases h
        · rename_i hf
          injection h with h; subst h
          obtain ⟨hfl, _, hc, r', hrun, hrel⟩ := find_sim hr hf w
          have hkk : k' = k := hk.flat_eq hfl
          subst hkk
          cases r' with
          | some q => cases hrel
          | none =>
            refine ⟨_, ?_, r.updMap hL hb (ms.push { key := k', val := v', born := cl }) (cl + 1) ?_, hfut _ _ _⟩
            · unfold Instr.mapUpdate
              simp only [Sem.run_bind, run_under hu, Result.andThen_ok, hg, hc, hrun, hset]
            · rw [Array.toList_push]
              exact hr.append hk hv
        · cases h
    · cases h
  · cases h

/-- What an operation gives that acts. -/
def EffN (P : Program) (B0 : Nat) (ρ : Ren) (H : Heap) (w : World) (v : Value) (H' : Heap) (s : Sem Next) : Prop :=
  ∃ ρ' w' cv, (s.run P w = .ok (.value cv) w' ∨ (s.run P w = .ok .skip w' ∧ cv = undefV)) ∧ VR ρ' v cv ∧ Rel B0 ρ' H' w' ∧ Fut B0 ρ H w ρ' H' w'

theorem EffR.next {P : Program} {B0 : Nat} {ρ : Ren} {H H' : Heap} {w : World} {v : Value} {s : Sem Value} (h : EffR P B0 ρ H w v H' s) : EffN P B0 ρ H w v H' (do pure (.value (← s))) := by
  obtain ⟨ρ', w', cv, h1, h2, h3, h4⟩ := h
  exact ⟨ρ', w', cv, .inl (by simp [h1]), h2, h3, h4⟩
theorem effN_unit {P : Program} {B0 : Nat} {ρ : Ren} {H H' : Heap} {w w' : World} {s : Sem Unit} (h1 : s.run P w = .ok () w') (h2 : Rel B0 ρ H' w') (h3 : Fut B0 ρ H w ρ H' w') : EffN P B0 ρ H w undefV H' (do s; pure .skip) :=
  ⟨ρ, w', undefV, .inr ⟨by simp [h1], rfl⟩, .flat _ rfl, h2, h3⟩

theorem eff_sim {P : Program} {ev : Operand → Value} {o : Oper} {H H' : Heap} {v : Value} (hk : kindOf o.op = .eff) (h : aop P ev o H = some (.val v H'))
    {B0 : Nat} {ρ : Ren} {w : World} {cev : Operand → Value} (r : Rel B0 ρ H w) (hv : OpsVR ρ ev cev o) : EffN P B0 ρ H w v H' (execOp cev o) := by
  obtain ⟨dst, op, type, pos, after, guard⟩ := o
  cases op <;> simp only [kindOf] at hk <;> try (cases hk)
  case store t a x =>
    simp only [aop, Option.map_eq_some_iff] at h
    obtain ⟨H1, hs, h⟩ := h
    injection h with h1 h2; subst h1; subst h2
    obtain ⟨w', g1, g2, g3⟩ := store_sim (P := P) r hs (hv a (by simp [Op.operands])) (hv x (by simp [Op.operands]))
    exact effN_unit g1 g2 g3
  case mapUpdate t m k x =>
    simp only [aop, Option.map_eq_some_iff] at h
    obtain ⟨H1, hs, h⟩ := h
    injection h with h1 h2; subst h1; subst h2
    obtain ⟨w', g1, g2, g3⟩ := update_sim (P := P) r hs (hv m (by simp [Op.operands])) (hv k (by simp [Op.operands])) (hv x (by simp [Op.operands]))
    exact effN_unit g1 g2 g3
  case insert t m k x =>
    simp only [aop, Option.map_eq_some_iff] at h
    obtain ⟨H1, hs, h⟩ := h
    injection h with h1 h2; subst h1; subst h2
    obtain ⟨w', g1, g2, g3⟩ := update_sim (P := P) r hs (hv m (by simp [Op.operands])) (hv k (by simp [Op.operands])) (hv x (by simp [Op.operands]))
    exact effN_unit g1 g2 g3
  case call c =>
    obtain ⟨callee, args, ts⟩ := c
    have hargs : VRs ρ (args.map ev).toList (args.map cev).toList := VRs_map args fun x hx => hv x (by simp [Op.operands, Call.operands, hx])
    cases callee with
    | value f =>
      simp only [aop] at h
      split at h <;> simp at h
    | invoke rc name =>
      simp only [aop] at h
      split at h <;> simp at h
    | builtin b =>
      cases b
      case append =>
        simp only [aop, Option.map_eq_some_iff] at h
        obtain ⟨⟨u, H1⟩, hs, h⟩ := h
        injection h with h1 h2; subst h1; subst h2
        rw [exec_builtin cev _ .append args ts rfl]
        exact (append_sim (ty := type) r hs hargs).next
      case copy =>
        simp only [aop, Option.map_eq_some_iff] at h
        obtain ⟨⟨u, H1⟩, hs, h⟩ := h
        injection h with h1 h2; subst h1; subst h2
        rw [exec_builtin cev _ .copy args ts rfl]
        exact (copy_sim (ty := type) r hs hargs).next
      all_goals first
        | (simp at hk; done)
        | (simp [aop] at h; done)
end Go.Abs
/- The abstract machine: calls and regions in the text's order, beside the model's. -/
namespace Go.Abs
open Go Go.RowKit
set_option linter.unusedVariables false
set_option linter.unusedSimpArgs false

def CallOk (P : Program) (f : FuncId) : Prop := ∃ fn, P.funcs[f]? = some fn ∧ callable fn = true

theorem callFunc_run {P : Program} {f : FuncId} (h : CallOk P f) (args : Array Value) (w : World) : (callFunc f args).run P w = .ok (.enter f args) w := by
  obtain ⟨fn, hf, hc⟩ := h
  unfold callable at hc
  simp only [Bool.and_eq_true, bne_iff_ne, ne_eq] at hc
  obtain ⟨h1, h2⟩ := hc
  have hb : fn.body.isNone = false := by
    cases hb : fn.body with
    | none => rw [hb] at h2; cases h2
    | some c => rfl
  have hb' : fn.body ≠ none := by intro e; rw [e] at hb; cases hb
  simp [callFunc, hf, h1, hb']

theorem call_sim {P : Program} {ev : Operand → Value} {o : Oper} {H : Heap} {f : FuncId} {args : Array Value} (h : aop P ev o H = some (.call f args)) (hc : CallOk P f) :
    kindOf o.op = .eff ∧ ∀ (ρ : Ren) (cev : Operand → Value), OpsVR ρ ev cev o → ∃ cargs : Array Value, VRs ρ args.toList cargs.toList ∧ ∀ w, (execOp cev o).run P w = .ok (.enter f cargs) w := by
  obtain ⟨dst, op, type, pos, after, guard⟩ := o
  cases op
  case call c =>
    obtain ⟨callee, xs, ts⟩ := c
    cases callee with
    | builtin b =>
      exfalso
      cases b <;> simp only [aop, Option.map_eq_some_iff] at h <;> (repeat' split at h) <;> simp at h
    | value g =>
      refine ⟨rfl, fun ρ cev hv => ?_⟩
      have hargs : VRs ρ (xs.map ev).toList (xs.map cev).toList := VRs_map xs fun x hx => hv x (by simp [Op.operands, Call.operands, hx])
      have hg := hv g (by simp [Op.operands, Call.operands])
      simp only [aop] at h
      split at h
      · rename_i f' first captured hfe
        injection h with h; injection h with h1 h2; subst h1; subst h2
        rw [hfe] at hg
        obtain ⟨b, d, he, k1, k2⟩ := hg.func_inv
        refine ⟨(b ++ xs.map cev) ++ d, ?_, fun w => ?_⟩
        · simp only [Array.toList_append]
          exact (k1.append hargs).append k2
        · simp [execOp, resolve, he, Deferred.ofValue, invoke, callFunc_run hc]
      · cases h
    | invoke rc name =>
      refine ⟨rfl, fun ρ cev hv => ?_⟩
      have hargs : VRs ρ (xs.map ev).toList (xs.map cev).toList := VRs_map xs fun x hx => hv x (by simp [Op.operands, Call.operands, hx])
      have hr := hv rc (by simp [Op.operands, Call.operands])
      simp only [aop] at h
      split at h
      · rename_i t v hre
        simp only [Option.map_eq_some_iff] at h
        obtain ⟨f', hm, h⟩ := h
        injection h with h1 h2; subst h1; subst h2
        rw [hre] at hr
        obtain ⟨v', he, hvv⟩ := hr.iface_inv
        refine ⟨#[v'] ++ xs.map cev, ?_, fun w => ?_⟩
        · simp only [Array.toList_append]
          exact VRs.append (.cons _ _ _ _ hvv .nil) hargs
        · have hext : (#[Value.iface t v'] ++ xs.map cev).extract 1 (#[Value.iface t v'] ++ xs.map cev).size = xs.map cev := by
            apply Array.toList_inj.1
            simp
            rw [List.take_of_length_le (by simp)]
          have h0 : (#[Value.iface t v'] ++ xs.map cev)[0]? = some (.iface t v') := by rw [Array.getElem?_append_left (Nat.zero_lt_one)]; rfl
          unfold methodT at hm
          split at hm
          · rename_i info hi
            split at hi
            · cases hi
            · rename_i hne
              split at hm
              · rename_i m hfind
                split at hm
                · rename_i f2 pr hp hfn
                  obtain ⟨n, hn⟩ : ∃ n, P.types.size + Made.depth = n + 1 := ⟨P.types.size + Made.depth - 1, by omega⟩
                  have hmeth : ∀ f3, f2 = f3 → (∃ d, P.underlying t = some d ∧ ((∃ e, d = .pointer e) ↔ pr = true)) → (method (P.types.size + Made.depth) t v' name).run P w = .ok (f3, v') w := by
                    intro f3 e3 hd
                    subst e3
                    obtain ⟨d, hd, hiff⟩ := hd
                    rw [hn]
                    unfold method
                    simp only [Sem.run_bind, run_info hi, Result.andThen_ok, hfind, hp, follow, Sem.run_pure, hfn]
                    have hra : ∀ wr, (receiverAt t (.val v') pr wr).run P w = .ok v' w := by
                      intro wr
                      unfold receiverAt
                      simp only [Sem.run_bind, run_under hd, Result.andThen_ok]
                      cases pr with
                      | true =>
                        obtain ⟨e, rfl⟩ := hiff.2 rfl
                        rfl
                      | false =>
                        cases d <;> first
                          | rfl
                          | (exact absurd (hiff.1 ⟨_, rfl⟩) (by simp))
                    simp [hra]
                  have hgo : (method (P.types.size + Made.depth) t v' name).run P w = .ok (f', v') w := by
                    cases hu : P.underlying t with
                    | none => simp [hu] at hm
                    | some d =>
                      rw [hu] at hm
                      refine hmeth f' ?_ ⟨d, hu, ?_⟩
                      · cases d <;> cases pr <;> simp at hm <;> exact hm
                      · cases d <;> cases pr <;> simp at hm <;> simp
                  simp only [execOp, resolve, he, Sem.run_bind, Sem.run_pure, Result.andThen_ok, invoke, h0, hext, callMethod, run_program, hgo, callFunc_run hc]
                · cases hm
              · cases hm
          · cases hm
      · cases h
  all_goals
    exfalso
    simp only [aop, Option.map_eq_some_iff] at h
    repeat' split at h
    all_goals simp at h

/-- What a call tells of the model's. -/
def SimCall (P : Program) (call : CallFn) : Prop :=
  ∀ (f : FuncId) (args : Array Value) (H : Heap) (v : Value) (H' : Heap), call f args H = some (v, H') → CallOk P f ∧ H.n ≤ H'.n ∧
    ∀ (B0 : Nat) (ρ : Ren) (w : World) (cargs : Array Value), Rel B0 ρ H w → VRs ρ args.toList cargs.toList →
      Calls P f cargs w fun e w' => ∃ ρ' cv, e = .returned cv ∧ VR ρ' v cv ∧ Rel B0 ρ' H' w' ∧ Fut B0 ρ H w ρ' H' w'

/-- One operation, beside the model's. -/
theorem step_sim {P : Program} {call : CallFn} (hs : SimCall P call) {ev : Operand → Value} {o : Oper} {H H' : Heap} {v : Value} (h : astep P call ev o H = some (v, H'))
    {B0 : Nat} {ρ : Ren} {w : World} {a : Act} (r : Rel B0 ρ H w) (hv : OpsVR ρ ev a.eval o) {Q : Exit → Act → World → Prop} {K : Act → World → Prop}
    (hK : ∀ ρ' w' cv, VR ρ' v cv → Rel B0 ρ' H' w' → Fut B0 ρ H w ρ' H' w' → K (a.put o.dst cv) w') : o.wp P a w K Q := by
  unfold astep at h
  split at h
  · rename_i u H1 hop
    injection h with h; injection h with h1 h2; subst h1; subst h2
    unfold Oper.wp
    cases hk : kindOf o.op with
    | quiet =>
      obtain ⟨rfl, hq⟩ := quiet_sim hk hop
      obtain ⟨cv, g1, g2⟩ := hq ρ a.eval hv w
      rw [g1]
      exact hK ρ w cv g2 r (Fut.refl _ _ _ _)
    | read =>
      obtain ⟨rfl, hq⟩ := read_sim hk hop
      obtain ⟨cv, g1, g2⟩ := hq B0 ρ w a.eval r hv
      rw [g1]
      exact hK ρ w cv g2 r (Fut.refl _ _ _ _)
    | make =>
      obtain ⟨b, rfl, hm⟩ := make_sim hk hop
      have hno : ρ H.n = none := by
        cases h : ρ H.n with
        | none => rfl
        | some L => have := (r.dom _ L h).1; omega
      obtain ⟨cv, w', L, g1, g2, g3, g4⟩ := hm (H.push b) B0 ρ w a.eval (r.late b) (by simp) hno (get_push_self _ _) hv
      rw [g1]
      exact hK _ w' cv g2 g3 (fut_new g4)
    | eff =>
      obtain ⟨ρ', w', cv, g1, g2, g3, g4⟩ := eff_sim hk hop r hv
      rcases g1 with g1 | ⟨g1, rfl⟩
      · rw [g1]; exact hK ρ' w' cv g2 g3 g4
      · rw [g1]; exact hK ρ' w' undefV g2 g3 g4
  · rename_i f args hop
    obtain ⟨hok, _, hcall⟩ := hs f args H v H' h
    obtain ⟨hke, hc⟩ := call_sim hop hok
    obtain ⟨cargs, g1, g2⟩ := hc ρ a.eval hv
    unfold Oper.wp
    rw [g2 w]
    refine (hcall B0 ρ w cargs r g1).mono ?_
    rintro e w' ⟨ρ', cv, rfl, k1, k2, k3⟩
    exact hK ρ' w' cv k1 k2 k3
  · cases h
end Go.Abs
/- The abstract machine: regions in the text's order, beside the model's. -/
namespace Go.Abs
open Go Go.RowKit
set_option linter.unusedVariables false
set_option linter.unusedSimpArgs false

theorem getD_sim {ρ : Ren} {ts cs : Array Value} (h : VRs ρ ts.toList cs.toList) (t : Nat) : VR ρ (ts.getD t undefV) (cs.getD t undef) := by
  have hl := h.length_eq
  simp only [Array.length_toList] at hl
  rw [Array.getD_eq_getD_getElem?, Array.getD_eq_getD_getElem?]
  by_cases ht : t < ts.size
  · obtain ⟨v', hv', hr⟩ := h.get t ts[t] (by simp [ht])
    have : cs[t]? = some v' := by simpa using hv'
    rw [this, Array.getElem?_eq_getElem ht]; exact hr
  · rw [Array.getElem?_eq_none (by omega), Array.getElem?_eq_none (by omega)]; exact .flat _ rfl
theorem evalT_sim {ρ : Ren} {ts : Array Value} {a : Act} (h : VRs ρ ts.toList a.tmps.toList) {x : Operand} (hx : noGlobalOp x = true) : VR ρ (evalT ts x) (a.eval x) := by
  cases x with
  | tmp t => exact getD_sim h t
  | const v => exact .flat v hx
  | global g => cases hx
  | func f => exact .flat _ rfl
theorem opsVR_of {ρ : Ren} {ts : Array Value} {a : Act} (h : VRs ρ ts.toList a.tmps.toList) {o : Oper} (ho : noGlobal o = true) : OpsVR ρ (evalT ts) a.eval o := by
  intro x hx
  refine evalT_sim h ?_
  simp only [noGlobal, Array.all_eq_true] at ho
  obtain ⟨i, hi, rfl⟩ := Array.mem_iff_getElem.1 hx
  exact ho i hi
theorem bool_back {ρ : Ren} {a : Value} {b : Bool} (h : VR ρ a (.bool b)) : a = .bool b := by cases h; rfl
theorem yielded_sim {ρ : Ren} {ops : Array Oper} {ts cs : Array Value} (h : VRs ρ ts.toList cs.toList) : yielded ops ts = yielded ops cs := by
  funext j
  unfold yielded
  cases hd : (ops[j]?).bind (·.dst) with
  | none => rfl
  | some d =>
    simp only [Option.bind_some]
    have hl := h.length_eq
    simp only [Array.length_toList] at hl
    by_cases hlt : d < ts.size
    · obtain ⟨v', hv', hr⟩ := h.get d ts[d] (by simp [hlt])
      have e1 : cs[d]? = some v' := by simpa using hv'
      have e2 : ts[d]? = some ts[d] := Array.getElem?_eq_getElem hlt
      rw [e1, e2]
      generalize ts[d] = u at hr
      cases hr with
      | flat _ hf => rfl
      | _ => rfl
    · have hle : ts.size ≤ d := Nat.le_of_not_lt hlt
      have e1 : cs[d]? = none := Array.getElem?_eq_none (by rw [hl]; exact hle)
      have e2 : ts[d]? = none := Array.getElem?_eq_none hle
      rw [e1, e2]
theorem put_sim {ρ : Ren} {ts : Array Value} {a : Act} (h : VRs ρ ts.toList a.tmps.toList) (dst : Option Tmp) {v cv : Value} (hv : VR ρ v cv) : VRs ρ (putT ts dst v).toList (a.put dst cv).tmps.toList := by
  cases dst with
  | none => exact h
  | some d =>
    simp only [putT, Act.put, Array.toList_setIfInBounds]
    exact h.set d hv
theorem put_defers (a : Act) (dst : Option Tmp) (v : Value) : (a.put dst v).defers = a.defers := by cases dst <;> rfl

theorem aops_sim {P : Program} {call : CallFn} (hs : SimCall P call) {ops : Array Oper} (hg : ops.all noGlobal = true) {B0 : Nat} {Q : Exit → Act → World → Prop} :
    ∀ (l : List Nat) (ts : Array Value) (H : Heap) (ts' : Array Value) (H' : Heap), aops P call ops l ts H = some (ts', H') →
    ∀ (ρ : Ren) (w : World) (a : Act), Rel B0 ρ H w → VRs ρ ts.toList a.tmps.toList →
      (∀ ρ' w' a', a'.defers = a.defers → Rel B0 ρ' H' w' → VRs ρ' ts'.toList a'.tmps.toList → Fut B0 ρ H w ρ' H' w' → Q .normal a' w') → wpOps P ops Q l a w := by
  intro l
  induction l with
  | nil =>
    intro ts H ts' H' h ρ w a r hv hQ
    simp only [aops, Option.some.injEq, Prod.mk.injEq] at h
    obtain ⟨rfl, rfl⟩ := h
    exact hQ ρ w a rfl r hv (Fut.refl _ _ _ _)
  | cons i rest ih =>
    intro ts H ts' H' h ρ w a r hv hQ
    rw [wpOps_cons]
    simp only [aops] at h
    unfold wpOp
    cases ho : ops[i]? with
    | none => rw [ho] at h; cases h
    | some o =>
      simp only [ho] at h ⊢
      have hgo : noGlobal o = true := by
        simp only [Array.all_eq_true] at hg
        obtain ⟨hi, e⟩ := Array.getElem?_eq_some_iff.1 ho
        rw [← e]; exact hg i hi
      rw [yielded_sim hv] at h
      split
      · rename_i hw
        rw [if_pos hw] at h
        cases hst : astep P call (evalT ts) o H with
        | none => rw [hst] at h; cases h
        | some vh =>
          obtain ⟨v, H1⟩ := vh
          rw [hst] at h
          simp only at h
          left
          refine step_sim hs hst r (opsVR_of hv hgo) fun ρ' w' cv hvr hrel hfut => ?_
          refine ih _ _ _ _ h ρ' w' _ hrel (put_sim (VRs.mono (hfut.le r) hv) o.dst hvr) fun ρ'' w'' a' hd hr' hv' hf' => ?_
          exact hQ ρ'' w'' a' (by rw [hd, put_defers]) hr' hv' (hfut.trans hf')
      · rename_i hw
        rw [if_neg hw] at h
        refine ih _ _ _ _ h ρ w _ r (put_sim hv o.dst (.flat _ rfl)) fun ρ'' w'' a' hd hr' hv' hf' => ?_
        exact hQ ρ'' w'' a' (by rw [hd, put_defers]) hr' hv' hf'
end Go.Abs
/- The abstract machine: what is before what in a region. -/
namespace Go.Abs
open Go Go.RowKit
set_option linter.unusedVariables false
set_option linter.unusedSimpArgs false

/-! The order -/
theorem befGo_len : ∀ (l : List Oper) (acc : List (List Nat)), (befGo l acc).length = acc.length + l.length
  | [], acc => by simp [befGo]
  | o :: rest, acc => by rw [befGo, befGo_len rest]; simp; omega
theorem befGo_old : ∀ (l : List Oper) (acc : List (List Nat)) (i : Nat), i < acc.length → (befGo l acc).getD i [] = acc.getD i []
  | [], acc, i, h => rfl
  | o :: rest, acc, i, h => by
    rw [befGo, befGo_old rest _ i (by simp; omega)]
    simp [List.getD, List.getElem?_append_left h]
theorem befGo_new : ∀ (l : List Oper) (acc : List (List Nat)) (k : Nat) (o : Oper), l[k]? = some o → (∀ j ∈ onsOf o, j < acc.length + k) → (∀ x, x ∈ (befGo l acc).getD (acc.length + k) [] ↔ x ∈ onsOf o ∨ ∃ j ∈ onsOf o, x ∈ (befGo l acc).getD j [])
  | [], acc, k, o, h, _ => by simp at h
  | p :: rest, acc, 0, o, h, hj => by
    simp at h; subst h
    intro x
    rw [befGo]
    have e : (befGo rest (acc ++ [((onsOf p) ++ (onsOf p).flatMap fun j => acc.getD j []).eraseDups])).getD (acc.length + 0) [] = ((onsOf p) ++ (onsOf p).flatMap fun j => acc.getD j []).eraseDups := by
      rw [befGo_old _ _ _ (by simp)]
      simp [List.getD]
    rw [e, List.mem_eraseDups, List.mem_append, List.mem_flatMap]
    have key : ∀ j ∈ onsOf p, (befGo rest (acc ++ [((onsOf p) ++ (onsOf p).flatMap fun j => acc.getD j []).eraseDups])).getD j [] = acc.getD j [] := by
      intro j hj'
      have := hj j hj'
      rw [befGo_old _ _ _ (by simp; omega)]
      simp [List.getD, List.getElem?_append_left (show j < acc.length by omega)]
    constructor
    · rintro (h | ⟨j, h1, h2⟩)
      · exact .inl h
      · exact .inr ⟨j, h1, by rw [key j h1]; exact h2⟩
    · rintro (h | ⟨j, h1, h2⟩)
      · exact .inl h
      · exact .inr ⟨j, h1, by rw [key j h1] at h2; exact h2⟩
  | p :: rest, acc, k + 1, o, h, hj => by
    rw [befGo]
    have := befGo_new rest (acc ++ [((onsOf p) ++ (onsOf p).flatMap fun j => acc.getD j []).eraseDups]) k o (by simpa using h) (fun j hj' => by have := hj j hj'; simp; omega)
    simp only [List.length_append, List.length_singleton] at this
    rw [show acc.length + (k + 1) = acc.length + 1 + k by omega]
    exact this

theorem befs_iff {ops : Array Oper} {i : Nat} {o : Oper} (ho : ops[i]? = some o) (hj : ∀ j ∈ onsOf o, j < i) (x : Nat) :
    x ∈ (befs ops).getD i [] ↔ x ∈ onsOf o ∨ ∃ j ∈ onsOf o, x ∈ (befs ops).getD j [] := by
  have := befGo_new ops.toList [] i o (by simpa using ho) (by simpa using hj) x
  simpa [befs] using this

/-- All that must be run ahead is in a set that holds, with each, what stands ahead of it. -/
theorem bef_closed {ops : Array Oper} (hord : ∀ i o, ops[i]? = some o → ∀ j ∈ onsOf o, j < i) {S : Nat → Prop} (hS : ∀ i o, ops[i]? = some o → S i → ∀ j ∈ onsOf o, S j) :
    ∀ (i : Nat) (o : Oper), ops[i]? = some o → (∀ j ∈ onsOf o, S j) → ∀ x ∈ (befs ops).getD i [], S x := by
  intro i
  induction i using Nat.strongRecOn with
  | _ i ih =>
    intro o ho hons x hx
    rw [befs_iff ho (hord i o ho)] at hx
    rcases hx with hx | ⟨j, hj, hx⟩
    · exact hons x hx
    · have hji := hord i o ho j hj
      have hsz : i < ops.size := (Array.getElem?_eq_some_iff.1 ho).1
      have hoj : ops[j]? = some ops[j] := Array.getElem?_eq_getElem (by omega)
      exact ih j hji ops[j] hoj (fun y hy => hS j ops[j] hoj (hons j hj) y hy) x hx

/-! A run, step by step -/
structure DS where
  m : Nat
  hs : List Held
  ts : Array Value
  H : Heap

def dstep (P : Program) (call : CallFn) (ops : Array Oper) (up : Nat → Nat) (d : DS) (i : Nat) : Option DS :=
  match ops[i]? with
  | none => none
  | some o =>
    let m' := if kindOf o.op = .eff then d.m + 1 else d.m
    if Region.wanted o (yielded ops d.ts) then
      match astep P call (evalT d.ts) o d.H with
      | some (v, H') =>
        if kindOf o.op = .eff ∧ heldOk (d.m + 1) H' d.hs = false then none
        else some ⟨m', (if kindOf o.op = .read ∧ up i ≠ d.m then ⟨up i, fun H => valOf (aop P (evalT d.ts) o H), v⟩ :: d.hs else d.hs), putT d.ts o.dst v, H'⟩
      | none => none
    else some ⟨m', d.hs, putT d.ts o.dst undefV, d.H⟩

theorem adraw_fold (P : Program) (call : CallFn) (ops : Array Oper) (up : Nat → Nat) : ∀ (l : List Nat) (m : Nat) (hs : List Held) (ts : Array Value) (H : Heap) (r : Array Value × Heap),
    adraw P call ops up l m hs ts H = some r → ∃ st : Nat → DS, st 0 = ⟨m, hs, ts, H⟩ ∧ (st l.length).ts = r.1 ∧ (st l.length).H = r.2 ∧ ∀ p i, l[p]? = some i → dstep P call ops up (st p) i = some (st (p + 1)) := by
  intro l
  induction l with
  | nil =>
    intro m hs ts H r h
    simp only [adraw, Option.some.injEq] at h
    subst h
    exact ⟨fun _ => ⟨m, hs, ts, H⟩, rfl, rfl, rfl, fun p i hp => by simp at hp⟩
  | cons i rest ih =>
    intro m hs ts H r h
    have key : ∀ d : DS, dstep P call ops up ⟨m, hs, ts, H⟩ i = some d → adraw P call ops up rest d.m d.hs d.ts d.H = some r →
        ∃ st : Nat → DS, st 0 = ⟨m, hs, ts, H⟩ ∧ (st (i :: rest).length).ts = r.1 ∧ (st (i :: rest).length).H = r.2 ∧ ∀ p j, (i :: rest)[p]? = some j → dstep P call ops up (st p) j = some (st (p + 1)) := by
      intro d h1 h2
      obtain ⟨st, s0, s1, s2, s3⟩ := ih _ _ _ _ _ h2
      refine ⟨fun p => match p with | 0 => ⟨m, hs, ts, H⟩ | p + 1 => st p, rfl, s1, s2, fun p j hp => ?_⟩
      cases p with
      | zero =>
        simp at hp; subst hp
        show dstep P call ops up ⟨m, hs, ts, H⟩ i = some (st 0)
        rw [s0, h1]
      | succ p => exact s3 p j (by simpa using hp)
    simp only [adraw] at h
    cases ho : ops[i]? with
    | none => rw [ho] at h; cases h
    | some o =>
      simp only [ho] at h
      split at h
      · rename_i hw
        cases hst : astep P call (evalT ts) o H with
        | none => rw [hst] at h; cases h
        | some vh =>
          obtain ⟨v, H1⟩ := vh
          rw [hst] at h
          simp only at h
          split at h
          · cases h
          · rename_i hb
            refine key ⟨_, _, _, _⟩ ?_ h
            simp only [dstep, ho, if_pos hw, hst, if_neg hb]; rfl
      · rename_i hw
        refine key ⟨_, _, _, _⟩ ?_ h
        simp only [dstep, ho, if_neg hw]; rfl
end Go.Abs
/- The abstract machine: the data of a run of a region that draws its order. -/
namespace Go.Abs
open Go Go.RowKit
set_option linter.unusedVariables false
set_option linter.unusedSimpArgs false

def PushExt (H H' : Heap) : Prop := H.n ≤ H'.n ∧ ∀ id, id < H.n → H'.get id = H.get id
theorem PushExt.refl (H : Heap) : PushExt H H := ⟨Nat.le_refl _, fun _ _ => rfl⟩
theorem PushExt.trans {a b c : Heap} (h : PushExt a b) (k : PushExt b c) : PushExt a c := ⟨Nat.le_trans h.1 k.1, fun id hi => (k.2 id (Nat.lt_of_lt_of_le hi h.1)).trans (h.2 id hi)⟩
theorem PushExt.push (H : Heap) (b : Blk) : PushExt H (H.push b) := ⟨by simp, fun id hi => by rw [Heap.get_push, if_neg (by omega)]⟩
theorem PushExt.some {H H' : Heap} (h : PushExt H H') {id : Nat} {b : Blk} (hb : H.get id = some b) : H'.get id = some b := by rw [h.2 id (Heap.get_lt hb)]; exact hb

theorem Rel.lateExt {B0 : Nat} {ρ : Ren} {H H' : Heap} {w : World} (r : Rel B0 ρ H w) (h : PushExt H H') : Rel B0 ρ H' w := by
  have key : ∀ id L, ρ id = Option.some L → H'.get id = H.get id := fun id L e => h.2 id (r.dom id L e).1
  refine ⟨r.low, fun id L e => ⟨Nat.lt_of_lt_of_le (r.dom id L e).1 h.1, (r.dom id L e).2⟩, ?_, ?_, ?_, ?_, ?_, ?_, ?_⟩
  · intro id L c md h e; rw [key id L h] at e; exact r.cells id L c md h e
  · intro id L c md h e; rw [key id L h] at e; exact r.own id L c md h e
  · intro id L c h e; rw [key id L h] at e; exact r.lowRo id L c h e
  · intro id L c md h e; rw [key id L h] at e; exact r.kind id L c md h e
  · intro id id' L L' c md c' md' hn h h' e e'; rw [key id L h] at e; rw [key id' L' h'] at e'; exact r.sep id id' L L' c md c' md' hn h h' e e'
  · intro id L es h e; rw [key id L h] at e; exact r.maps id L es h e
  · intro id id' L L' es es' hn h h' e e'; rw [key id L h] at e; rw [key id' L' h'] at e'; exact r.sepM id id' L L' es es' hn h h' e e'

theorem cellsAt_ext {H H' : Heap} (h : PushExt H H') {id off n : Nat} {l : List Value} (e : cellsAt H id off n = some l) : cellsAt H' id off n = some l := by
  unfold cellsAt at *
  split at e
  · rename_i c md hb; rw [h.some hb]; exact e
  · cases e

/-- What was read is read the same behind blocks more. -/
theorem read_ext {P : Program} {ev : Operand → Value} {o : Oper} {H H' H2 : Heap} {v : Value} (hk : kindOf o.op = .read) (h : aop P ev o H = some (.val v H')) (hx : PushExt H H2) : valOf (aop P ev o H2) = some v := by
  obtain ⟨dst, op, type, pos, after, guard⟩ := o
  cases op <;> simp only [kindOf] at hk <;> try (cases hk)
  case load t a =>
    simp only [aop, Option.map_eq_some_iff] at h
    obtain ⟨c, hc, h⟩ := h
    injection h with h1 h2; subst h1
    suffices aload P t (ev a) H2 = some c by simp [aop, this, valOf]
    unfold aload at *
    split at hc
    · split at hc
      · rename_i hb; rw [hx.some hb]; exact hc
      · cases hc
    · cases hc
  case convert s d x =>
    simp only [aop, Option.map_eq_some_iff] at h
    obtain ⟨c, hc, h⟩ := h
    injection h with h1 h2; subst h1
    suffices aconvert P s d (ev x) H2 = some c by simp [aop, this, valOf]
    unfold aconvert at *
    split at hc
    · split at hc
      · split at hc
        · simp only [Option.map_eq_some_iff] at hc ⊢
          obtain ⟨l, hl, e⟩ := hc
          refine ⟨l, ?_, e⟩
          split
          · rename_i h0; rw [if_pos h0] at hl; exact hl
          · rename_i h0
            rw [if_neg h0] at hl
            cases hcc : cellsAt H _ _ _ with
            | none => rw [hcc] at hl; cases hl
            | some y => rw [hcc] at hl; rw [cellsAt_ext hx hcc]; exact hl
        · cases hc
      · cases hc
    · exact hc
    · exact hc
  case slice t x lo hi mx =>
    simp only [aop, Option.map_eq_some_iff] at h
    obtain ⟨c, hc, h⟩ := h
    injection h with h1 h2; subst h1
    suffices aslice P t (ev x) (lo.map ev) (hi.map ev) (mx.map ev) H2 = some c by simp [aop, this, valOf]
    unfold aslice at *
    split at hc
    · split at hc
      · rename_i hb ha; rw [hx.some hb]; simp only [ha]; exact hc
      · cases hc
    · split at hc
      · rename_i hb ha; rw [hx.some hb]; simp only [ha]; exact hc
      · cases hc
    · exact hc
    · exact hc
    · cases hc
  case lookup t x k ok =>
    simp only [aop, Option.map_eq_some_iff] at h
    obtain ⟨c, hc, h⟩ := h
    injection h with h1 h2; subst h1
    suffices alookup P t (ev x) (ev k) ok H2 = some c by simp [aop, this, valOf]
    unfold alookup at *
    split at hc
    · exact hc
    · split at hc
      · rename_i hb; rw [hx.some hb]; exact hc
      · cases hc
    · cases hc
  case call c =>
    obtain ⟨callee, args, ts⟩ := c
    cases callee with
    | value f => simp [kindOf] at hk
    | invoke r n => simp [kindOf] at hk
    | builtin b =>
      cases b <;> simp [kindOf] at hk
      simp only [aop] at h
      split at h
      · rename_i x t hxx ht
        simp only [Option.map_eq_some_iff] at h
        obtain ⟨c, hc, h⟩ := h
        injection h with h1 h2; subst h1
        suffices alen P t x H2 = some c by simp only [aop, hxx, ht, this]; rfl
        unfold alen at *
        split at hc
        · split at hc
          · rename_i hb hT; rw [hx.some hb]; simp only [hT]; exact hc
          · cases hc
        all_goals exact hc
      · cases h

def isEffAt (ops : Array Oper) (j : Nat) : Prop := ∃ o, ops[j]? = some o ∧ kindOf o.op = .eff

theorem phases_spec {ops : Array Oper} {bs : List (List Nat)} : ∀ (l : List Nat) (last : Option Nat) (done : List Nat), phases ops bs l last done = true → ∀ (k i : Nat), l[k]? = some i →
    (∀ x ∈ bs.getD i [], x ∈ done ∨ ∃ q, q < k ∧ l[q]? = some x) ∧ i ∉ done ∧ (∀ q, q < k → l[q]? ≠ some i) ∧
    (∀ e j, e < k → l[e]? = some j → isEffAt ops j → (∀ x y, e < x → x < k → l[x]? = some y → ¬ isEffAt ops y) → j ∈ bs.getD i []) ∧
    (∀ le, last = some le → (∀ x y, x < k → l[x]? = some y → ¬ isEffAt ops y) → le ∈ bs.getD i []) := by
  intro l
  induction l with
  | nil => intro last done h k i hk; simp at hk
  | cons a rest ih =>
    intro last done h k i hk
    simp only [phases, Bool.and_eq_true] at h
    obtain ⟨⟨⟨h1, h2⟩, h3⟩, h4⟩ := h
    cases k with
    | zero =>
      simp at hk; subst hk
      refine ⟨fun x hx => ?_, ?_, fun q hq => by omega, fun e j he => by omega, fun le hle _ => ?_⟩
      · left
        simp only [List.all_eq_true] at h1
        simpa using h1 x hx
      · simpa using h2
      · subst hle; simpa using h3
    | succ k =>
      cases ho : ops[a]? with
      | none => simp [ho] at h4
      | some o =>
        simp only [ho] at h4
        obtain ⟨g1, g2, g3, g4, g5⟩ := ih _ _ h4 k i (by simpa using hk)
        refine ⟨fun x hx => ?_, ?_, fun q hq => ?_, fun e j he hj hej hno => ?_, fun le hle hno => ?_⟩
        · rcases g1 x hx with hx | ⟨q, hq, hx⟩
          · rcases List.mem_cons.1 hx with e | hx
            · subst e; exact .inr ⟨0, by omega, by simp⟩
            · exact .inl hx
          · exact .inr ⟨q + 1, by omega, by simpa using hx⟩
        · exact fun e => g2 (List.mem_cons_of_mem _ e)
        · cases q with
          | zero => intro e; simp at e; subst e; exact g2 (List.mem_cons_self)
          | succ q => simpa using g3 q (by omega)
        · cases e with
          | zero =>
            simp at hj; subst hj
            obtain ⟨o', ho', hk'⟩ := hej
            rw [ho] at ho'; injection ho' with ho'; subst ho'
            exact g5 a (by rw [if_pos hk']) fun x y hx hy => hno (x + 1) y (by omega) (by omega) (by simpa using hy)
          | succ e =>
            exact g4 e j (by omega) (by simpa using hj) hej fun x y h1 h2 h3 => hno (x + 1) y (by omega) (by omega) (by simpa using h3)
        · have hna : ¬ isEffAt ops a := hno 0 a (by omega) (by simp)
          refine g5 le ?_ fun x y hx hy => hno (x + 1) y (by omega) (by simpa using hy)
          rw [if_neg (fun hk' => hna ⟨o, ho, hk'⟩)]
          exact hle
end Go.Abs
