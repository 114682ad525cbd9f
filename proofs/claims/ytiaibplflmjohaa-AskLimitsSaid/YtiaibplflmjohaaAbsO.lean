/- The abstract machine: append, copy and maps written, beside the model's. -/
import Derived.Test.YtiaibplflmjohaaAbsN
set_option linter.unusedVariables false
set_option linter.unusedSimpArgs false
namespace Go.Abs
open Go Go.RowKit
set_option linter.unusedVariables false
set_option linter.unusedSimpArgs false

def EffR (P : Program) (B0 : Nat) (ρ : Ren) (H : Heap) (w : World) (v : Value) (H' : Heap) (s : Sem Value) : Prop :=
  ∃ ρ' w' cv, s.run P w = .ok cv w' ∧ VR ρ' v cv ∧ Rel B0 ρ' H' w' ∧ Fut B0 ρ H w ρ' H' w'

theorem fut_new {B0 : Nat} {ρ : Ren} {H : Heap} {w w' : World} {b : Blk} {L : Loc} (hb : Below B0 w w') : Fut B0 ρ H w (ρ.upd H.n L) (H.push b) w' :=
  ⟨by simp, fun id h => Ren.upd_ne _ _ (by omega), hb, fun id h _ => by rw [Heap.get_push, if_neg (by omega)]⟩

/-- A new row, behind a draw. -/
theorem grown_new {B0 : Nat} {ρ : Ren} {H : Heap} {w : World} (r : Rel B0 ρ H w) {as cs : List Value} (hv : VRs ρ as cs) (rest : Array Value) (elem : TypeId) (es need newCap : Nat) (hlen : as.length = need * es) (hrest : rest.size = (newCap - need) * es) (hle : need ≤ newCap) (es0 : 0 < es) :
    ∃ L, VR (ρ.upd H.n L) (slc H.n 0 need need) (.slice (some ⟨w.heap.size, 0, none⟩) need newCap) ∧ Rel B0 (ρ.upd H.n L) (H.push (.cells as (.grown es))) (w.drew.alloc (.cells (⟨cs⟩ ++ rest) elem)) ∧
      Fut B0 ρ H w (ρ.upd H.n L) (H.push (.cells as (.grown es))) (w.drew.alloc (.cells (⟨cs⟩ ++ rest) elem)) := by
  have hl := hv.length_eq
  have hno : ρ H.n = none := by
    cases h : ρ H.n with
    | none => rfl
    | some L => have := (r.dom _ L h).1; omega
  have hmul : need * es + (newCap - need) * es = newCap * es := by rw [← Nat.add_mul]; congr 1; omega
  have hsz : ((⟨cs⟩ : Array Value) ++ rest).size = newCap * es := by simp [hrest, hl, hlen, hmul]
  have rl := (r.drew.late (.cells as (.grown es)))
  obtain ⟨k1, k2⟩ := rl.new H.n (by simp) hno as (.grown es) (get_push_self _ _) (by simp) (⟨cs⟩ ++ rest) elem ⟨w.heap.size, 0, newCap * es, .grown es⟩ rfl rfl (by rw [hsz])
    (fun i v hi => by
      obtain ⟨v', hv', hr⟩ := hv.get i v hi
      refine ⟨v', ?_, hr⟩
      have : i < cs.length := by
        rcases Nat.lt_or_ge i cs.length with h' | h'
        · exact h'
        · rw [List.getElem?_eq_none h'] at hv'; cases hv'
      rw [Array.getElem?_append_left (by simpa using this)]
      simpa using hv') (by rw [hsz]; omega) rfl
  refine ⟨_, .slice H.n 0 need need 0 newCap _ (Ren.upd_same _ _ _) (Nat.le_refl _) hle (fun _ => rfl) (fun e => by cases e) (fun es' e => by injection e with e; subst e; simp), k1, ?_⟩
  exact fut_new (((Below.refl B0 w).drew).alloc r.low _)

theorem agrow_sim {P : Program} {B0 : Nat} {ρ : Ren} {H H' : Heap} {w : World} (r : Rel B0 ρ H w) {sType xType elem ty : TypeId} {inf : TypeInfo} {len cap n : Nat} {base : Option Addr} {s' x' z v : Value} {zeros : Bool} {xs : List Value}
    (hu : P.underlying sType = some (.slice elem)) (hi : P.info? elem = some inf) (hz : isIntT P xType = some zeros)
    (hxl : xs.length = n * inf.size) (hsc : xs.all scal = true) (happ : ∀ w : World, Rel B0 ρ H w → ∃ cs : List Value, (appended elem inf.size n zeros x').run P w = .ok ⟨cs⟩ w ∧ VRs ρ xs cs)
    (hn0 : zeros = false → ∀ w : World, Rel B0 ρ H w → (Builtin.lenOf x').run P w = .ok n w) (hn1 : zeros = true → x' = .int .i64 n ∧ (n : Int) * inf.bytes ≤ 2 ^ 44)
    (hzt : zeroT P elem = some z) (hzs : z.cells.size = inf.size) (hb : 0 < inf.bytes) (hb2 : inf.bytes ≤ 2 ^ 20) (hsz0 : 0 < inf.size) (hsz : (len + n) * inf.bytes ≤ 2 ^ 44)
    (hs : VR ρ (.slice base len cap) s') (h : agrow elem inf.size len n base cap xs H = some (v, H')) :
    EffR P B0 ρ H w v H' (Builtin.append_ #[sType, xType] ty #[s', x']) := by
  obtain ⟨cs, ha, hv⟩ := happ w r
  obtain ⟨cs2, ha2, hv2⟩ := happ w.drew r.drew
  obtain ⟨z1, z2⟩ := run_zero (w := w.drew) hzt
  have hn0' : zeros = false → (Builtin.lenOf x').run P w = .ok n w := fun e => hn0 e w r
  have hzc : ∀ k, (Builtin.zeroCells z.cells k).size = k * inf.size := by intro k; unfold Builtin.zeroCells; simp [hzs]
  unfold agrow at h
  split at h
  · rename_i hle
    split at h
    · rename_i hn
      subst hn
      injection h with h; injection h with h1 h2; subst h1; subst h2
      have hcs : cs = [] := by have := hv.length_eq; rw [hxl] at this; simpa using this
      subst hcs
      cases base with
      | none =>
        have := hs.flat_eq rfl; subst this
        exact ⟨ρ, w, _, append_in hu hi hz hn0' hn1 hb ha hle (by simp), by simpa using hs, r, Fut.refl _ _ _ _⟩
      | some a =>
        obtain ⟨b', rfl, hcap⟩ : ∃ b', s' = b' ∧ ∃ a' cap', b' = .slice (some a') len cap' ∧ cap ≤ cap' := by
          cases hs with
          | flat _ hf => simp [Abs.flat] at hf
          | slice id off _ _ off' cap' L hL g1 g2 => exact ⟨_, rfl, _, _, rfl, g2⟩
        obtain ⟨a', cap', rfl, hcc⟩ := hcap
        exact ⟨ρ, w, _, append_in hu hi hz hn0' hn1 hb ha (by omega) (by simp [storeCells]), by simpa using hs, r, Fut.refl _ _ _ _⟩
    · rename_i hn
      split at h
      · rename_i id off
        obtain ⟨L, off', cap', hL, rfl, g1, g2, g3, g4, g5⟩ := hs.slice_inv
        simp only [Option.map_eq_some_iff] at h
        obtain ⟨H1, hst, h⟩ := h
        injection h with h1 h2; subst h1; subst h2
        have ho : off' = off := g3 (by omega)
        subst ho
        obtain ⟨k1, k2, k3⟩ := storeAt_sim (P := P) r hL hst hv
        refine ⟨ρ, _, _, append_in hu hi hz hn0' hn1 hb ha (by omega) (by show (storeCells (Addr.add _ _) cs).run P w = _; rw [addr_add, Nat.add_assoc]; exact k1), ?_, k2, k3⟩
        exact .slice id off' (len + n) cap off' cap' L hL hle g2 g3 g4 g5
      · cases h
  · rename_i hgt
    split at h
    · -- a nil slice
      split at h
      · rename_i h0
        injection h with h; injection h with h1 h2; subst h1; subst h2; subst h0
        have := hs.flat_eq rfl; subst this
        obtain ⟨newCap, hge, hrun⟩ := append_out (ty := ty) hu hi hz hn0' hn1 hb hb2 hsz ha2 (by omega) (base := none) (os := []) (by simp [Builtin.firstCells]) z1
        obtain ⟨L, v1, v2, v3⟩ := grown_new r hv2 (Builtin.zeroCells z.cells (newCap - (0 + n))) elem inf.size n newCap hxl (by rw [hzc]; simp) (by omega) hsz0
        refine ⟨_, _, _, hrun, by simpa using v1, ?_, ?_⟩
        · simpa using v2
        · simpa using v3
      · cases h
    · rename_i id off
      obtain ⟨L, off', cap', hL, rfl, g1, g2, g3, g4, g5⟩ := hs.slice_inv
      have first : ∀ old, firstL H inf.size len (.slice (some ⟨id, off, none⟩) len cap) = some old → ∀ w : World, Rel B0 ρ H w → ∃ os : List Value, (Builtin.firstCells inf.size len (.slice (some ⟨L.cb, L.base + off', none⟩) len cap')).run P w = .ok ⟨os⟩ w ∧ VRs ρ old os ∧ old.length = len * inf.size := by
        intro old ho w rw
        obtain ⟨os, q1, q2, q3, q4⟩ := first_sim (P := P) rw ho hs rfl (Nat.le_refl _)
        exact ⟨os, q1, q2, q4⟩
      split at h
      · rename_i c hbk
        simp only [Option.map_eq_some_iff] at h
        obtain ⟨old, ho, h⟩ := h
        injection h with h1 h2; subst h1; subst h2
        have hk := r.kind id L c _ hL hbk
        obtain ⟨hcap, hoff⟩ := g4 hk
        subst hcap; subst hoff
        obtain ⟨os, q1, q2, q3⟩ := first old ho w.drew r.drew
        obtain ⟨newCap, hge, hrun⟩ := append_out (ty := ty) hu hi hz hn0' hn1 hb hb2 hsz ha2 hgt q1 z1
        obtain ⟨L2, v1, v2, v3⟩ := grown_new r (q2.append hv2) (Builtin.zeroCells z.cells (newCap - (len + n))) elem inf.size (len + n) newCap (by rw [List.length_append, q3, hxl, Nat.add_mul]) (by rw [hzc]) hge hsz0
        have e : (⟨os⟩ : Array Value) ++ ⟨cs2⟩ = ⟨os ++ cs2⟩ := by simp
        rw [e] at hrun
        exact ⟨_, _, _, hrun, v1, v2, v3⟩
      · rename_i c es hbk
        split at h
        · rename_i hes
          subst hes
          simp only [Option.map_eq_some_iff] at h
          obtain ⟨old, ho, h⟩ := h
          injection h with h1 h2; subst h1; subst h2
          have hk := r.kind id L c _ hL hbk
          have g5' := g5 _ hk
          have hno : ρ H.n = none := by
            cases h : ρ H.n with
            | none => rfl
            | some L => have := (r.dom _ L h).1; omega
          have hid : id < H.n := (r.dom id L hL).1
          have hmul : len * inf.size + n * inf.size = (len + n) * inf.size := (Nat.add_mul _ _ _).symm
          have hpush : ∀ b, (H.set id .dead).push b = (H.push b).set id .dead := by
            intro b
            unfold Heap.set Heap.push
            have : H.n + 1 - 1 - id = (H.n - 1 - id) + 1 := by omega
            simp only [hid, if_pos (show id < H.n + 1 by omega), if_true, this, List.set_cons_succ]
          by_cases hin : len + n ≤ cap'
          · -- in place
            obtain ⟨os, q1, q2, q3⟩ := first old ho w r
            obtain ⟨o1, o2, o3⟩ := r.own id L c _ hL hbk (by simp)
            have hfit : off' + (len + n) * inf.size ≤ L.ext := by
              have : (len + n) * inf.size ≤ cap' * inf.size := Nat.mul_le_mul_right _ hin
              omega
            have hcl := hv.length_eq
            have hol := q2.length_eq
            have hstore := run_storeCells_cells (P := P) L.cb (L.base + off' + len * inf.size) cs 0 w (fun j hj => (o3 _ (by omega) (by omega)).1) (fun j hj => (o3 _ (by omega) (by omega)).2) (scal_all hv hsc)
            rw [Nat.add_zero] at hstore
            have hrun := append_in (ty := ty) (base := some ⟨L.cb, L.base + off', none⟩) (len := len) (cap := cap') (w' := w.setCells L.cb (L.base + off' + len * inf.size) cs) hu hi hz hn0' hn1 hb ha hin (by show (storeCells (Addr.add _ _) cs).run P w = _; rw [addr_add]; exact hstore)
            have hsp := (r.late (.cells (old ++ xs) (.grown inf.size))).spoil (id := id) (c := c) (md := .grown inf.size) hL (by rw [Heap.get_push, if_neg (by omega)]; exact hbk) (by simp) (o := L.base + off' + len * inf.size) cs (by omega) (by omega)
            obtain ⟨k1, k2⟩ := hsp.add (n := H.n) (by simp) hno (c := old ++ xs) (md := .grown inf.size) (by rw [get_set_other _ _ (by omega)]; exact get_push_self _ _) (by simp)
              ⟨L.cb, L.base + off', L.ext - off', .grown inf.size⟩ (by rw [size_setCells]; exact (r.dom id L hL).2) o1 (by simp only [List.length_append]; omega)
              (fun o h1 h2 => by
                simp only at h1 h2
                obtain ⟨x, y⟩ := o3 o (by omega) (by omega)
                rw [World.frozen?_setCells]
                refine ⟨?_, y⟩
                by_cases hin2 : L.base + off' + len * inf.size ≤ o ∧ o < L.base + off' + len * inf.size + cs.length
                · obtain ⟨k, rfl⟩ : ∃ k, o = L.base + off' + len * inf.size + k := ⟨o - (L.base + off' + len * inf.size), by omega⟩
                  rw [World.cell?_setCells_in L.cb cs _ w (fun m hm => (o3 _ (by omega) (by omega)).1) k (by omega)]; rfl
                · rw [World.cell?_setCells_out L.cb cs _ w _ (fun _ _ => by simp only; omega)]; exact x) rfl
              (fun i v hi => by
                by_cases hlt : i < old.length
                · rw [List.getElem?_append_left hlt] at hi
                  have hlen0 : 0 < len := by
                    rcases Nat.eq_zero_or_pos len with h' | h'
                    · subst h'; omega
                    · exact h'
                  have ho2 : off' = off := g3 (by omega)
                  subst ho2
                  unfold firstL at ho
                  simp only at ho
                  rw [if_neg (by omega)] at ho
                  obtain ⟨css, p1, p2, p3, p4⟩ := cells_sim r hL ho
                  obtain ⟨v', hv', hr⟩ := p3.get i v hi
                  refine ⟨v', ?_, hr⟩
                  rw [World.cell?_setCells_out L.cb cs _ w _ (fun _ _ => by simp only; omega)]
                  exact p4 i v' hv'
                · rw [List.getElem?_append_right (by omega)] at hi
                  obtain ⟨v', hv', hr⟩ := hv.get _ v hi
                  refine ⟨v', ?_, hr⟩
                  have hil : i - old.length < cs.length := by
                    rcases Nat.lt_or_ge (i - old.length) cs.length with h' | h'
                    · exact h'
                    · rw [List.getElem?_eq_none h'] at hv'; cases hv'
                  have := World.cell?_setCells_in L.cb cs (L.base + off' + len * inf.size) w (fun m hm => (o3 _ (by omega) (by omega)).1) (i - old.length) hil
                  rw [show L.base + off' + i = L.base + off' + len * inf.size + (i - old.length) by omega, this]
                  rw [List.getElem?_eq_getElem hil] at hv'; exact hv')
              (fun i L1 c1 m1 h1 e1 hro => by
                by_cases hid2 : i = id
                · subst hid2
                  rw [get_set_self (b := .cells c (.grown inf.size)) (by rw [Heap.get_push, if_neg (by omega)]; exact hbk)] at e1
                  injection e1 with e1; cases e1
                · rw [get_set_other _ _ hid2] at e1
                  have hin3 := (r.dom i L1 h1).1
                  rw [Heap.get_push, if_neg (by omega)] at e1
                  rcases r.sep i id L1 L c1 m1 c _ hid2 h1 hL e1 hbk hro (by simp) with hs | hs | hs
                  · left; exact fun x => hs x.symm
                  · right; right; simp only; omega
                  · right; left; simp only; omega)
            refine ⟨_, _, _, hrun, ?_, by rw [hpush]; exact k1, ?_⟩
            · refine .slice H.n 0 (len + n) (len + n) 0 cap' _ (Ren.upd_same _ _ _) (Nat.le_refl _) hin (fun _ => rfl) (fun e => by cases e) (fun es' e => ?_)
              injection e with e; subst e
              simp only
              omega
            · refine ⟨by simp, fun i hi => Ren.upd_ne _ _ (by omega), below_setCells _ o1 _ _ _, fun i hi hnone => ?_⟩
              rw [hpush, get_set_other _ _ (by intro e; subst e; rw [hL] at hnone; cases hnone), Heap.get_push, if_neg (by omega)]
          · -- a new row
            obtain ⟨os, q1, q2, q3⟩ := first old ho w.drew r.drew
            obtain ⟨newCap, hge, hrun⟩ := append_out (ty := ty) hu hi hz hn0' hn1 hb hb2 hsz ha2 hin q1 z1
            obtain ⟨L2, v1, v2, v3⟩ := grown_new r (q2.append hv2) (Builtin.zeroCells z.cells (newCap - (len + n))) elem inf.size (len + n) newCap (by rw [List.length_append, q3, hxl, Nat.add_mul]) (by rw [hzc]) hge hsz0
            have e : (⟨os⟩ : Array Value) ++ ⟨cs2⟩ = ⟨os ++ cs2⟩ := by simp
            rw [e] at hrun
            refine ⟨_, _, _, hrun, v1, ?_, ?_⟩
            · rw [hpush]
              exact v2.kill (b := .cells c (.grown inf.size)) (by rw [Heap.get_push, if_neg (by omega)]; exact hbk)
            · refine ⟨by simp, fun i hi => Ren.upd_ne _ _ (by omega), v3.below, fun i hi hnone => ?_⟩
              rw [hpush, get_set_other _ _ (by intro e; subst e; rw [hL] at hnone; cases hnone), Heap.get_push, if_neg (by omega)]
        · cases h
      · cases h
    · cases h
end Go.Abs
