/- The abstract machine: stores, rows that grow, maps, beside the model's. -/
import Derived.Test.YtiaibplflmjohaaAbsD
set_option linter.unusedVariables false
set_option linter.unusedSimpArgs false
namespace Go.Abs
open Go Go.RowKit
set_option linter.unusedVariables false

theorem size_setCells (b : Nat) : ∀ (vs : List Value) (o : Nat) (w : World), (w.setCells b o vs).heap.size = w.heap.size
  | [], _, _ => rfl
  | v :: r, o, w => by rw [World.setCells, size_setCells b r]; simp
theorem map_setCell (w : World) (a : Addr) (v : Value) (k : Nat) (ms : Array MapEntry) (cl : Nat) (h : w.heap[k]? = some (.map ms cl)) : (w.setCell a v).heap[k]? = some (.map ms cl) := by
  simp only [World.setCell, Array.getElem?_modify]
  split
  · rename_i e; subst e; rw [h]; rfl
  · exact h
theorem map_setCells (b : Nat) (k : Nat) (ms : Array MapEntry) (cl : Nat) : ∀ (vs : List Value) (o : Nat) (w : World), w.heap[k]? = some (.map ms cl) → (w.setCells b o vs).heap[k]? = some (.map ms cl)
  | [], _, _, h => h
  | v :: r, o, w, h => by rw [World.setCells]; exact map_setCells b k ms cl r _ _ (map_setCell w _ v k ms cl h)
theorem below_setCells {B : Nat} (b : Nat) (hb : B ≤ b) : ∀ (vs : List Value) (o : Nat) (w : World), Below B w (w.setCells b o vs)
  | [], _, w => Below.refl _ _
  | v :: r, o, w => by rw [World.setCells]; exact ((Below.refl B w).setCell (p := ⟨b, o, none⟩) hb v).trans (below_setCells b hb r _ _)

theorem writeAt_length : ∀ (vs : List Value) (c : List Value) (off : Nat), (writeAt c off vs).length = c.length
  | [], _, _ => rfl
  | v :: vs, c, off => by rw [writeAt, writeAt_length vs]; simp
theorem writeAt_out : ∀ (vs : List Value) (c : List Value) (off i : Nat), i < off ∨ off + vs.length ≤ i → (writeAt c off vs)[i]? = c[i]?
  | [], _, _, _, _ => rfl
  | v :: vs, c, off, i, h => by
    rw [writeAt, writeAt_out vs _ _ _ (by simp at h; omega), List.getElem?_set_ne (by simp at h; omega)]
theorem writeAt_in : ∀ (vs : List Value) (c : List Value) (off j : Nat), off + vs.length ≤ c.length → j < vs.length → (writeAt c off vs)[off + j]? = vs[j]?
  | v :: vs, c, off, 0, h, _ => by
    rw [writeAt, writeAt_out vs _ _ _ (by omega)]
    simp only [List.length_cons] at h
    rw [Nat.add_zero, List.getElem?_set_self (by omega)]; rfl
  | v :: vs, c, off, j + 1, h, hj => by
    rw [writeAt, show off + (j + 1) = off + 1 + j by omega, writeAt_in vs _ _ j (by simp at h ⊢; omega) (by simpa using hj)]
    simp

theorem get_set_self {H : Heap} {id : Nat} {b b' : Blk} (h : H.get id = some b) : (H.set id b').get id = some b' := by rw [Heap.get_set, if_pos rfl, h]; rfl
theorem get_set_other (H : Heap) {id i : Nat} (b' : Blk) (h : i ≠ id) : (H.set id b').get i = H.get i := by rw [Heap.get_set, if_neg (Ne.symm h)]

/-- A store. -/
theorem Rel.write {B0 : Nat} {ρ : Ren} {H : Heap} {w : World} (r : Rel B0 ρ H w) {id : Nat} {L : Loc} {c : List Value} {md : Md} (hL : ρ id = some L) (hb : H.get id = some (.cells c md)) (hmd : md ≠ .ro)
    {off : Nat} {vs ws : List Value} (hoff : off + vs.length ≤ c.length) (hv : VRs ρ vs ws) :
    Rel B0 ρ (H.set id (.cells (writeAt c off vs) md)) (w.setCells L.cb (L.base + off) ws) := by
  have hlen := hv.length_eq
  obtain ⟨hlow, hext, hown⟩ := r.own id L c md hL hb hmd
  have old : ∀ i b, (H.set id (.cells (writeAt c off vs) md)).get i = some b → (i = id ∧ b = .cells (writeAt c off vs) md) ∨ (i ≠ id ∧ H.get i = some b) := by
    intro i b h
    by_cases e : i = id
    · subst e; rw [get_set_self hb] at h; exact .inl ⟨rfl, by injection h with h; exact h.symm⟩
    · rw [get_set_other _ _ e] at h; exact .inr ⟨e, h⟩
  refine ⟨by rw [size_setCells]; exact r.low, fun i L' h => by rw [size_setCells, Heap.set_n]; exact r.dom i L' h, ?_, ?_, ?_, ?_, ?_, ?_, ?_⟩
  · intro i L' c' md' h e j v hj
    rcases old i _ e with ⟨a, b⟩ | ⟨hne, e⟩
    · subst a; injection b with b1 b2; subst b1; subst md'
      rw [hL] at h; injection h with h; subst h
      by_cases hin : off ≤ j ∧ j < off + vs.length
      · obtain ⟨k, rfl⟩ : ∃ k, j = off + k := ⟨j - off, by omega⟩
        rw [writeAt_in vs c off k hoff (by omega)] at hj
        obtain ⟨v', hv', hr⟩ := hv.get k v hj
        refine ⟨v', ?_, hr⟩
        have hk : k < ws.length := by omega
        have := World.cell?_setCells_in L.cb ws (L.base + off) w (fun m hm => (hown _ (by omega) (by omega)).1) k hk
        rw [show L.base + (off + k) = L.base + off + k by omega, this]
        rw [List.getElem?_eq_getElem hk] at hv'; exact hv'
      · rw [writeAt_out vs c off j (by omega)] at hj
        obtain ⟨v', hv', hr⟩ := r.cells i L c md hL hb j v hj
        refine ⟨v', ?_, hr⟩
        rw [World.cell?_setCells_out L.cb ws (L.base + off) w _ (fun _ _ => by simp only; omega)]; exact hv'
    · obtain ⟨v', hv', hr⟩ := r.cells i L' c' md' h e j v hj
      refine ⟨v', ?_, hr⟩
      rw [World.cell?_setCells_out L.cb ws (L.base + off) w _ ?_]; · exact hv'
      intro hblk _
      simp only at hblk ⊢
      have hjl : j < c'.length := by
        rcases Nat.lt_or_ge j c'.length with h' | h'
        · exact h'
        · rw [List.getElem?_eq_none h'] at hj; cases hj
      by_cases hro : md' = .ro
      · subst hro; have := r.lowRo i L' c' h e; omega
      · have h3 := (r.own i L' c' md' h e hro).2.1
        rcases r.sep i id L' L c' md' c md hne h hL e hb hro hmd with hs | hs | hs
        · exact absurd hblk hs
        · left; omega
        · right; omega
  · intro i L' c' md' h e hro
    rcases old i _ e with ⟨a, b⟩ | ⟨hne, e⟩
    · subst a; injection b with b1 b2; subst b1; subst b2
      rw [hL] at h; injection h with h; subst h
      refine ⟨hlow, by rw [writeAt_length]; exact hext, fun o h1 h2 => ?_⟩
      obtain ⟨x, y⟩ := hown o h1 h2
      rw [World.frozen?_setCells]
      refine ⟨?_, y⟩
      by_cases hin : L.base + off ≤ o ∧ o < L.base + off + ws.length
      · obtain ⟨k, rfl⟩ : ∃ k, o = L.base + off + k := ⟨o - (L.base + off), by omega⟩
        rw [World.cell?_setCells_in L.cb ws (L.base + off) w (fun m hm => (hown _ (by omega) (by omega)).1) k (by omega)]; rfl
      · rw [World.cell?_setCells_out L.cb ws (L.base + off) w _ (fun _ _ => by simp only; omega)]; exact x
    · obtain ⟨x1, x2, x3⟩ := r.own i L' c' md' h e hro
      refine ⟨x1, x2, fun o h1 h2 => ?_⟩
      obtain ⟨x, y⟩ := x3 o h1 h2
      rw [World.frozen?_setCells]
      refine ⟨?_, y⟩
      rw [World.cell?_setCells_out L.cb ws (L.base + off) w _ ?_]; · exact x
      intro hblk _
      simp only at hblk ⊢
      rcases r.sep i id L' L c' md' c md hne h hL e hb hro hmd with hs | hs | hs
      · exact absurd hblk hs
      · left; omega
      · right; omega
  · intro i L' c' h e
    rcases old i _ e with ⟨a, b⟩ | ⟨hne, e⟩
    · injection b with b1 b2; exact absurd b2.symm hmd
    · exact r.lowRo i L' c' h e
  · intro i L' c' md' h e
    rcases old i _ e with ⟨a, b⟩ | ⟨hne, e⟩
    · injection b with b1 b2; subst a; rw [b2]; exact r.kind _ _ c md h hb
    · exact r.kind i L' c' md' h e
  · intro i i' L1 L2 c1 m1 c2 m2 hn h h' e e' d d'
    rcases old i _ e with ⟨a, b⟩ | ⟨hne, g⟩ <;> rcases old i' _ e' with ⟨a', b'⟩ | ⟨hne', g'⟩
    · exact absurd (a.trans a'.symm) hn
    · injection b with b1 b2; subst a; exact r.sep _ _ L1 L2 c md c2 m2 hn h h' hb g' hmd d'
    · injection b' with b1 b2; subst a'; exact r.sep _ _ L1 L2 c1 m1 c md hn h h' g hb d hmd
    · exact r.sep _ _ L1 L2 c1 m1 c2 m2 hn h h' g g' d d'
  · intro i L' es h e
    rcases old i _ e with ⟨a, b⟩ | ⟨hne, e⟩
    · cases b
    · obtain ⟨a, ms, cl, hm, hr⟩ := r.maps i L' es h e
      exact ⟨a, ms, cl, map_setCells _ _ _ _ _ _ _ hm, hr⟩
  · intro i i' L1 L2 es es' hn h h' e e'
    rcases old i _ e with ⟨a, b⟩ | ⟨hne, e⟩
    · cases b
    · rcases old i' _ e' with ⟨a, b⟩ | ⟨hne', e'⟩
      · cases b
      · exact r.sepM i i' L1 L2 es es' hn h h' e e'

theorem Fut.write {B0 : Nat} {ρ : Ren} {H : Heap} {w : World} (r : Rel B0 ρ H w) {id : Nat} {L : Loc} {c : List Value} {md : Md} (hL : ρ id = some L) (hb : H.get id = some (.cells c md)) (hmd : md ≠ .ro) (b : Blk) (o : Nat) (ws : List Value) :
    Fut B0 ρ H w ρ (H.set id b) (w.setCells L.cb o ws) :=
  ⟨by simp, fun _ _ => rfl, below_setCells _ (r.own id L c md hL hb hmd).1 _ _ _, fun i _ hi => get_set_other _ _ (fun e => by subst e; rw [hL] at hi; cases hi)⟩

/-- A block that is no more. -/
theorem Rel.kill {B0 : Nat} {ρ : Ren} {H : Heap} {w : World} (r : Rel B0 ρ H w) {id : Nat} {b : Blk} (hb : H.get id = some b) : Rel B0 ρ (H.set id .dead) w := by
  have old : ∀ i b', (H.set id .dead).get i = some b' → b' = .dead ∨ H.get i = some b' := by
    intro i b' h
    by_cases e : i = id
    · subst e; rw [get_set_self hb] at h; injection h with h; exact .inl h.symm
    · rw [get_set_other _ _ e] at h; exact .inr h
  refine ⟨r.low, fun i L' h => by rw [Heap.set_n]; exact r.dom i L' h, ?_, ?_, ?_, ?_, ?_, ?_, ?_⟩
  · intro i L' c' md' h e; rcases old i _ e with b | e; · cases b
    exact r.cells i L' c' md' h e
  · intro i L' c' md' h e; rcases old i _ e with b | e; · cases b
    exact r.own i L' c' md' h e
  · intro i L' c' h e; rcases old i _ e with b | e; · cases b
    exact r.lowRo i L' c' h e
  · intro i L' c' md' h e; rcases old i _ e with b | e; · cases b
    exact r.kind i L' c' md' h e
  · intro i i' L1 L2 c1 m1 c2 m2 hn h h' e e'
    rcases old i _ e with b | e; · cases b
    rcases old i' _ e' with b | e'; · cases b
    exact r.sep i i' L1 L2 c1 m1 c2 m2 hn h h' e e'
  · intro i L' es h e; rcases old i _ e with b | e; · cases b
    exact r.maps i L' es h e
  · intro i i' L1 L2 es es' hn h h' e e'
    rcases old i _ e with b | e; · cases b
    rcases old i' _ e' with b | e'; · cases b
    exact r.sepM i i' L1 L2 es es' hn h h' e e'

/-- A block of another name, that lies within one that is no more. -/
theorem Rel.within {B0 : Nat} {ρ : Ren} {H : Heap} {w : World} (r : Rel B0 ρ H w) {id : Nat} {L : Loc} {c : List Value} {es : Nat} (hL : ρ id = some L) (hb : H.get id = some (.cells c (.grown es))) {n : Nat} (hn : n < H.n) (hnid : n ≠ id) (hno : ρ n = none) {c' : List Value} (hbn : H.get n = some (.cells c' (.grown es)))
    (L' : Loc) (hcb : L'.cb = L.cb) (h1 : L.base ≤ L'.base) (h2 : L'.base + L'.ext ≤ L.base + L.ext) (hmd : L'.md = .grown es) (hlen : c'.length ≤ L'.ext)
    (hc : ∀ i v, c'[i]? = some v → ∃ v', w.cell? ⟨L'.cb, L'.base + i, none⟩ = some v' ∧ VR ρ v v') :
    Rel B0 (ρ.upd n L') (H.set id .dead) w ∧ Le ρ (ρ.upd n L') := by
  have hle : Le ρ (ρ.upd n L') := fun i M h => by
    rw [Ren.upd_ne]; exact h
    intro e; subst e; rw [hno] at h; cases h
  obtain ⟨hlow, hext, hown⟩ := r.own id L c _ hL hb (by simp)
  have oldB : ∀ i b', (H.set id .dead).get i = some b' → b' = .dead ∨ (i ≠ id ∧ H.get i = some b') := by
    intro i b' h
    by_cases e : i = id
    · subst e; rw [get_set_self hb] at h; injection h with h; exact .inl h.symm
    · rw [get_set_other _ _ e] at h; exact .inr ⟨e, h⟩
  have old : ∀ i M, ρ.upd n L' i = some M → (i = n ∧ M = L') ∨ (i ≠ n ∧ ρ i = some M) := by
    intro i M h
    by_cases e : i = n
    · subst e; rw [Ren.upd_same] at h; exact .inl ⟨rfl, by injection h with h; exact h.symm⟩
    · rw [Ren.upd_ne _ _ e] at h; exact .inr ⟨e, h⟩
  refine ⟨⟨r.low, ?_, ?_, ?_, ?_, ?_, ?_, ?_, ?_⟩, hle⟩
  · intro i M h
    rcases old i M h with ⟨a, b⟩ | ⟨hne, h⟩
    · subst a; subst b; exact ⟨by simpa using hn, by rw [hcb]; exact (r.dom id L hL).2⟩
    · exact ⟨by simpa using (r.dom i M h).1, (r.dom i M h).2⟩
  · intro i M c1 md1 h e j v hj
    rcases oldB i _ e with b | ⟨hni, e⟩; · cases b
    rcases old i M h with ⟨a, b⟩ | ⟨hne, h⟩
    · subst a; subst b
      rw [hbn] at e; injection e with e; injection e with e1 e2; subst e1
      obtain ⟨v', hv', hr⟩ := hc j v hj
      exact ⟨v', hv', hr.mono hle⟩
    · obtain ⟨v', hv', hr⟩ := r.cells i M c1 md1 h e j v hj
      exact ⟨v', hv', hr.mono hle⟩
  · intro i M c1 md1 h e hro
    rcases oldB i _ e with b | ⟨hni, e⟩; · cases b
    rcases old i M h with ⟨a, b⟩ | ⟨hne, h⟩
    · subst a; subst b
      rw [hbn] at e; injection e with e; injection e with e1 e2; subst e1
      exact ⟨by omega, hlen, fun o g1 g2 => by rw [hcb]; exact hown o (by omega) (by omega)⟩
    · exact r.own i M c1 md1 h e hro
  · intro i M c1 h e
    rcases oldB i _ e with b | ⟨hni, e⟩; · cases b
    rcases old i M h with ⟨a, b⟩ | ⟨hne, h⟩
    · subst a; rw [hbn] at e; injection e with e; injection e with e1 e2; cases e2
    · exact r.lowRo i M c1 h e
  · intro i M c1 md1 h e
    rcases oldB i _ e with b | ⟨hni, e⟩; · cases b
    rcases old i M h with ⟨a, b⟩ | ⟨hne, h⟩
    · subst a; subst b; rw [hbn] at e; injection e with e; injection e with e1 e2; exact hmd.trans e2
    · exact r.kind i M c1 md1 h e
  · intro i i' L1 L2 c1 m1 c2 m2 hnn h h' e e' d d'
    rcases oldB i _ e with b | ⟨hni, e⟩; · cases b
    rcases oldB i' _ e' with b | ⟨hni', e'⟩; · cases b
    rcases old i L1 h with ⟨a1, b1⟩ | ⟨hne, g1⟩ <;> rcases old i' L2 h' with ⟨a2, b2⟩ | ⟨hne', g2⟩
    · exact absurd (a1.trans a2.symm) hnn
    · subst b1
      rcases r.sep i' id L2 L c2 m2 c _ hni' g2 hL e' hb d' (by simp) with hs | hs | hs
      · left; rw [hcb]; exact fun x => hs x.symm
      · right; right; omega
      · right; left; omega
    · subst b2
      rcases r.sep i id L1 L c1 m1 c _ hni g1 hL e hb d (by simp) with hs | hs | hs
      · left; rw [hcb]; exact hs
      · right; left; omega
      · right; right; omega
    · exact r.sep i i' L1 L2 c1 m1 c2 m2 hnn g1 g2 e e' d d'
  · intro i M es1 h e
    rcases oldB i _ e with b | ⟨hni, e⟩; · cases b
    rcases old i M h with ⟨a, b⟩ | ⟨hne, h⟩
    · subst a; rw [hbn] at e; injection e with e; cases e
    · obtain ⟨x, ms, cl, hm, hr⟩ := r.maps i M es1 h e
      exact ⟨x, ms, cl, hm, hr.mono hle⟩
  · intro i i' L1 L2 es1 es2 hnn h h' e e'
    rcases oldB i _ e with b | ⟨hni, e⟩; · cases b
    rcases oldB i' _ e' with b | ⟨hni', e'⟩; · cases b
    rcases old i L1 h with ⟨a1, b1⟩ | ⟨hne, g1⟩
    · subst a1; rw [hbn] at e; injection e with e; cases e
    · rcases old i' L2 h' with ⟨a2, b2⟩ | ⟨hne', g2⟩
      · subst a2; rw [hbn] at e'; injection e' with e'; cases e'
      · exact r.sepM i i' L1 L2 es1 es2 hnn g1 g2 e e'

/-- A map more. -/
theorem Rel.newMap {B0 : Nat} {ρ : Ren} {H : Heap} {w : World} (r : Rel B0 ρ H w) (id : Nat) (hid : id < H.n) (hno : ρ id = none) (hb : H.get id = some (.map [])) (L : Loc) (hcb : L.cb = w.heap.size) :
    Rel B0 (ρ.upd id L) H (w.alloc (.map #[] 0)) ∧ Le ρ (ρ.upd id L) := by
  have hle : Le ρ (ρ.upd id L) := fun i L' h => by
    rw [Ren.upd_ne]; exact h
    intro e; subst e; rw [hno] at h; cases h
  have old : ∀ i M, ρ.upd id L i = some M → (i = id ∧ M = L) ∨ (i ≠ id ∧ ρ i = some M) := by
    intro i M h
    by_cases e : i = id
    · subst e; rw [Ren.upd_same] at h; exact .inl ⟨rfl, by injection h with h; exact h.symm⟩
    · rw [Ren.upd_ne _ _ e] at h; exact .inr ⟨e, h⟩
  have noc : ∀ i M c md, ρ.upd id L i = some M → H.get i = some (.cells c md) → ρ i = some M := by
    intro i M c md h e
    rcases old i M h with ⟨a, b⟩ | ⟨hne, h⟩
    · subst a; rw [hb] at e; injection e with e; cases e
    · exact h
  refine ⟨⟨by have := r.low; simp; omega, ?_, ?_, ?_, ?_, ?_, ?_, ?_, ?_⟩, hle⟩
  · intro i M h
    rcases old i M h with ⟨a, b⟩ | ⟨hne, h⟩
    · subst a; subst b; exact ⟨hid, by rw [hcb]; simp⟩
    · have := r.dom i M h; exact ⟨this.1, by have := this.2; simp; omega⟩
  · intro i M c md h e j v hj
    have h := noc i M c md h e
    obtain ⟨v', hv', hr⟩ := r.cells i M c md h e j v hj
    exact ⟨v', cell_alloc hv', hr.mono hle⟩
  · intro i M c md h e hro
    have h := noc i M c md h e
    obtain ⟨a, b, hh⟩ := r.own i M c md h e hro
    refine ⟨a, b, fun o h1 h2 => ?_⟩
    obtain ⟨x, y⟩ := hh o h1 h2
    exact ⟨by rw [cellS_alloc x]; exact x, by rw [World.frozen?_alloc_old _ _ _ (Nat.ne_of_lt (r.dom i M h).2)]; exact y⟩
  · intro i M c h e; exact r.lowRo i M c (noc i M c _ h e) e
  · intro i M c md h e; exact r.kind i M c md (noc i M c _ h e) e
  · intro i i' L1 L2 c1 m1 c2 m2 hn h h' e e' d d'; exact r.sep i i' L1 L2 c1 m1 c2 m2 hn (noc _ _ _ _ h e) (noc _ _ _ _ h' e') e e' d d'
  · intro i M es h e
    rcases old i M h with ⟨a, b⟩ | ⟨hne, h⟩
    · subst a; subst b
      rw [hb] at e; injection e with e; injection e with e; subst e
      exact ⟨by rw [hcb]; exact r.low, #[], 0, by rw [hcb]; show (w.heap.push _)[_]? = _; simp, .nil⟩
    · obtain ⟨x, ms, cl, hm, hr⟩ := r.maps i M es h e
      exact ⟨x, ms, cl, by rw [Below.heap_alloc _ _ _ (r.dom i M h).2]; exact hm, hr.mono hle⟩
  · intro i i' L1 L2 es es' hn h h' e e'
    rcases old i L1 h with ⟨a1, b1⟩ | ⟨hne, g1⟩ <;> rcases old i' L2 h' with ⟨a2, b2⟩ | ⟨hne', g2⟩
    · exact absurd (a1.trans a2.symm) hn
    · have := (r.dom i' L2 g2).2; rw [b1]; omega
    · have := (r.dom i L1 g1).2; rw [b2]; omega
    · exact r.sepM i i' L1 L2 es es' hn g1 g2 e e'

/-- A map written. -/
theorem Rel.updMap {B0 : Nat} {ρ : Ren} {H : Heap} {w : World} (r : Rel B0 ρ H w) {id : Nat} {L : Loc} {es es' : List (Value × Value)} (hL : ρ id = some L) (hb : H.get id = some (.map es)) (ms : Array MapEntry) (cl : Nat) (hm : MR ρ es' ms.toList) :
    Rel B0 ρ (H.set id (.map es')) { w with heap := w.heap.setIfInBounds L.cb (.map ms cl) } := by
  obtain ⟨hlow, ms0, cl0, h0, _⟩ := r.maps id L es hL hb
  have hheap : ∀ k, k ≠ L.cb → (w.heap.setIfInBounds L.cb (.map ms cl))[k]? = w.heap[k]? := fun k hk => Array.getElem?_setIfInBounds_ne (Ne.symm hk)
  have hcell : ∀ a : Addr, ({ w with heap := w.heap.setIfInBounds L.cb (.map ms cl) } : World).cell? a = w.cell? a := by
    intro a
    unfold World.cell?
    by_cases e : a.block = L.cb
    · simp only [e, h0, Array.getElem?_setIfInBounds_self_of_lt (r.dom id L hL).2]
    · simp only [hheap _ e]
  have hfro : ∀ a : Addr, ({ w with heap := w.heap.setIfInBounds L.cb (.map ms cl) } : World).frozen? a = w.frozen? a := by
    intro a
    unfold World.frozen?
    by_cases e : a.block = L.cb
    · simp only [e, h0, Array.getElem?_setIfInBounds_self_of_lt (r.dom id L hL).2]
    · simp only [hheap _ e]
  have old : ∀ i b, (H.set id (.map es')).get i = some b → (i = id ∧ b = .map es') ∨ (i ≠ id ∧ H.get i = some b) := by
    intro i b h
    by_cases e : i = id
    · subst e; rw [get_set_self hb] at h; exact .inl ⟨rfl, by injection h with h; exact h.symm⟩
    · rw [get_set_other _ _ e] at h; exact .inr ⟨e, h⟩
  have oldC : ∀ i c md, (H.set id (.map es')).get i = some (.cells c md) → H.get i = some (.cells c md) := by
    intro i c md h
    rcases old i _ h with ⟨_, b⟩ | ⟨_, h⟩
    · cases b
    · exact h
  refine ⟨by simpa using r.low, fun i M h => by simpa using r.dom i M h, ?_, ?_, ?_, ?_, ?_, ?_, ?_⟩
  · intro i M c md h e j v hj; rw [hcell]; exact r.cells i M c md h (oldC _ _ _ e) j v hj
  · intro i M c md h e hro
    obtain ⟨a, b, hh⟩ := r.own i M c md h (oldC _ _ _ e) hro
    exact ⟨a, b, fun o h1 h2 => by rw [hcell, hfro]; exact hh o h1 h2⟩
  · intro i M c h e; exact r.lowRo i M c h (oldC _ _ _ e)
  · intro i M c md h e; exact r.kind i M c md h (oldC _ _ _ e)
  · intro i i' L1 L2 c1 m1 c2 m2 hn h h' e e' d d'; exact r.sep i i' L1 L2 c1 m1 c2 m2 hn h h' (oldC _ _ _ e) (oldC _ _ _ e') d d'
  · intro i M es1 h e
    rcases old i _ e with ⟨a, b⟩ | ⟨hne, e⟩
    · subst a; injection b with b; subst b
      rw [hL] at h; injection h with h; subst h
      exact ⟨hlow, ms, cl, by simp only [Array.getElem?_setIfInBounds_self_of_lt (r.dom _ L hL).2], hm⟩
    · obtain ⟨x, ms1, cl1, hm1, hr1⟩ := r.maps i M es1 h e
      refine ⟨x, ms1, cl1, ?_, hr1⟩
      simp only
      rw [hheap _ (r.sepM i id M L es1 es hne h hL e hb)]; exact hm1
  · intro i i' L1 L2 es1 es2 hn h h' e e'
    rcases old i _ e with ⟨a, b⟩ | ⟨hne, g⟩ <;> rcases old i' _ e' with ⟨a', b'⟩ | ⟨hne', g'⟩
    · exact absurd (a.trans a'.symm) hn
    · subst a; exact r.sepM _ _ L1 L2 es es2 hn h h' hb g'
    · subst a'; exact r.sepM _ _ L1 L2 es1 es hn h h' g hb
    · exact r.sepM i i' L1 L2 es1 es2 hn h h' g g'
end Go.Abs
