/- The abstract machine: rows that grow in place. -/
import Derived.Test.YtiaibplflmjohaaAbsE
set_option linter.unusedVariables false
set_option linter.unusedSimpArgs false
namespace Go.Abs
open Go Go.RowKit
set_option linter.unusedVariables false

/-- A row that is no more, its cells written. -/
theorem Rel.spoil {B0 : Nat} {ρ : Ren} {H : Heap} {w : World} (r : Rel B0 ρ H w) {id : Nat} {L : Loc} {c : List Value} {md : Md} (hL : ρ id = some L) (hb : H.get id = some (.cells c md)) (hmd : md ≠ .ro)
    {o : Nat} (ws : List Value) (h1 : L.base ≤ o) (h2 : o + ws.length ≤ L.base + L.ext) : Rel B0 ρ (H.set id .dead) (w.setCells L.cb o ws) := by
  obtain ⟨hlow, hext, hown⟩ := r.own id L c md hL hb hmd
  have old : ∀ i b', (H.set id .dead).get i = some b' → b' = .dead ∨ (i ≠ id ∧ H.get i = some b') := by
    intro i b' h
    by_cases e : i = id
    · subst e; rw [get_set_self hb] at h; injection h with h; exact .inl h.symm
    · rw [get_set_other _ _ e] at h; exact .inr ⟨e, h⟩
  have out : ∀ i L' c' md', i ≠ id → ρ i = some L' → H.get i = some (.cells c' md') → ∀ k, (md' = .ro ∨ (L'.base ≤ k ∧ k < L'.base + L'.ext)) → (w.setCells L.cb o ws).cell? ⟨L'.cb, k, none⟩ = w.cell? ⟨L'.cb, k, none⟩ := by
    intro i L' c' md' hne h e k hk
    refine World.cell?_setCells_out L.cb ws o w _ ?_
    intro hblk _
    simp only at hblk ⊢
    by_cases hro : md' = .ro
    · subst hro; have := r.lowRo i L' c' h e; omega
    · rcases hk with hk | ⟨k1, k2⟩
      · exact absurd hk hro
      · rcases r.sep i id L' L c' md' c md hne h hL e hb hro hmd with hs | hs | hs
        · exact absurd hblk hs
        · left; omega
        · right; omega
  refine ⟨by rw [size_setCells]; exact r.low, fun i L' h => by rw [size_setCells, Heap.set_n]; exact r.dom i L' h, ?_, ?_, ?_, ?_, ?_, ?_, ?_⟩
  · intro i L' c' md' h e j v hj
    rcases old i _ e with b | ⟨hne, e⟩; · cases b
    obtain ⟨v', hv', hr⟩ := r.cells i L' c' md' h e j v hj
    refine ⟨v', ?_, hr⟩
    rw [out i L' c' md' hne h e _ ?_]; · exact hv'
    by_cases hro : md' = .ro
    · exact .inl hro
    · right
      have hjl : j < c'.length := by
        rcases Nat.lt_or_ge j c'.length with h' | h'
        · exact h'
        · rw [List.getElem?_eq_none h'] at hj; cases hj
      have := (r.own i L' c' md' h e hro).2.1
      omega
  · intro i L' c' md' h e hro
    rcases old i _ e with b | ⟨hne, e⟩; · cases b
    obtain ⟨x1, x2, x3⟩ := r.own i L' c' md' h e hro
    refine ⟨x1, x2, fun k k1 k2 => ?_⟩
    rw [out i L' c' md' hne h e k (.inr ⟨k1, k2⟩), World.frozen?_setCells]
    exact x3 k k1 k2
  · intro i L' c' h e
    rcases old i _ e with b | ⟨hne, e⟩; · cases b
    exact r.lowRo i L' c' h e
  · intro i L' c' md' h e
    rcases old i _ e with b | ⟨hne, e⟩; · cases b
    exact r.kind i L' c' md' h e
  · intro i i' L1 L2 c1 m1 c2 m2 hn h h' e e'
    rcases old i _ e with b | ⟨hne, g⟩; · cases b
    rcases old i' _ e' with b | ⟨hne', g'⟩; · cases b
    exact r.sep i i' L1 L2 c1 m1 c2 m2 hn h h' g g'
  · intro i L' es h e
    rcases old i _ e with b | ⟨hne, e⟩; · cases b
    obtain ⟨a, ms, cl, hm, hr⟩ := r.maps i L' es h e
    exact ⟨a, ms, cl, map_setCells _ _ _ _ _ _ _ hm, hr⟩
  · intro i i' L1 L2 es es' hn h h' e e'
    rcases old i _ e with b | ⟨hne, g⟩; · cases b
    rcases old i' _ e' with b | ⟨hne', g'⟩; · cases b
    exact r.sepM i i' L1 L2 es es' hn h h' g g'

/-- A row more, of cells that are there. -/
theorem Rel.add {B0 : Nat} {ρ : Ren} {H : Heap} {w : World} (r : Rel B0 ρ H w) {n : Nat} (hn : n < H.n) (hno : ρ n = none) {c : List Value} {md : Md} (hb : H.get n = some (.cells c md)) (hmd : md ≠ .ro) (L : Loc) (hcb : L.cb < w.heap.size) (hlow : B0 ≤ L.cb)
    (hlen : c.length ≤ L.ext) (hown : ∀ o, L.base ≤ o → o < L.base + L.ext → (w.cell? ⟨L.cb, o, none⟩).isSome = true ∧ w.frozen? ⟨L.cb, o, none⟩ = false) (hkind : L.md = md)
    (hc : ∀ i v, c[i]? = some v → ∃ v', w.cell? ⟨L.cb, L.base + i, none⟩ = some v' ∧ VR ρ v v')
    (hsep : ∀ i L1 c1 m1, ρ i = some L1 → H.get i = some (.cells c1 m1) → m1 ≠ .ro → L.cb ≠ L1.cb ∨ L.base + L.ext ≤ L1.base ∨ L1.base + L1.ext ≤ L.base) :
    Rel B0 (ρ.upd n L) H w ∧ Le ρ (ρ.upd n L) := by
  have hle : Le ρ (ρ.upd n L) := fun i M h => by
    rw [Ren.upd_ne]; exact h
    intro e; subst e; rw [hno] at h; cases h
  have old : ∀ i M, ρ.upd n L i = some M → (i = n ∧ M = L) ∨ (i ≠ n ∧ ρ i = some M) := by
    intro i M h
    by_cases e : i = n
    · subst e; rw [Ren.upd_same] at h; exact .inl ⟨rfl, by injection h with h; exact h.symm⟩
    · rw [Ren.upd_ne _ _ e] at h; exact .inr ⟨e, h⟩
  refine ⟨⟨r.low, ?_, ?_, ?_, ?_, ?_, ?_, ?_, ?_⟩, hle⟩
  · intro i M h
    rcases old i M h with ⟨a, b⟩ | ⟨hne, h⟩
    · subst a; subst b; exact ⟨hn, hcb⟩
    · exact r.dom i M h
  · intro i M c1 md1 h e j v hj
    rcases old i M h with ⟨a, b⟩ | ⟨hne, h⟩
    · subst a; subst b
      rw [hb] at e; injection e with e; injection e with e1 e2; subst e1
      obtain ⟨v', hv', hr⟩ := hc j v hj
      exact ⟨v', hv', hr.mono hle⟩
    · obtain ⟨v', hv', hr⟩ := r.cells i M c1 md1 h e j v hj
      exact ⟨v', hv', hr.mono hle⟩
  · intro i M c1 md1 h e hro
    rcases old i M h with ⟨a, b⟩ | ⟨hne, h⟩
    · subst a; subst b
      rw [hb] at e; injection e with e; injection e with e1 e2; subst e1
      exact ⟨hlow, hlen, hown⟩
    · exact r.own i M c1 md1 h e hro
  · intro i M c1 h e
    rcases old i M h with ⟨a, b⟩ | ⟨hne, h⟩
    · subst a; rw [hb] at e; injection e with e; injection e with e1 e2; exact absurd e2 hmd
    · exact r.lowRo i M c1 h e
  · intro i M c1 md1 h e
    rcases old i M h with ⟨a, b⟩ | ⟨hne, h⟩
    · subst a; subst b; rw [hb] at e; injection e with e; injection e with e1 e2; exact hkind.trans e2
    · exact r.kind i M c1 md1 h e
  · intro i i' L1 L2 c1 m1 c2 m2 hnn h h' e e' d d'
    rcases old i L1 h with ⟨a1, b1⟩ | ⟨hne, g1⟩ <;> rcases old i' L2 h' with ⟨a2, b2⟩ | ⟨hne', g2⟩
    · exact absurd (a1.trans a2.symm) hnn
    · subst b1; exact hsep i' L2 c2 m2 g2 e' d'
    · subst b2
      rcases hsep i L1 c1 m1 g1 e d with hs | hs | hs
      · left; exact fun x => hs x.symm
      · right; right; exact hs
      · right; left; exact hs
    · exact r.sep i i' L1 L2 c1 m1 c2 m2 hnn g1 g2 e e' d d'
  · intro i M es1 h e
    rcases old i M h with ⟨a, b⟩ | ⟨hne, h⟩
    · subst a; rw [hb] at e; injection e with e; cases e
    · obtain ⟨x, ms, cl, hm, hr⟩ := r.maps i M es1 h e
      exact ⟨x, ms, cl, hm, hr.mono hle⟩
  · intro i i' L1 L2 es1 es2 hnn h h' e e'
    rcases old i L1 h with ⟨a1, b1⟩ | ⟨hne, g1⟩
    · subst a1; rw [hb] at e; injection e with e; cases e
    · rcases old i' L2 h' with ⟨a2, b2⟩ | ⟨hne', g2⟩
      · subst a2; rw [hb] at e'; injection e' with e'; cases e'
      · exact r.sepM i i' L1 L2 es1 es2 hnn g1 g2 e e'
end Go.Abs
