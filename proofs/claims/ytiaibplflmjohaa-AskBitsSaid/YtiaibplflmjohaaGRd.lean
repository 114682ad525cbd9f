/- What a reading of a datum gives for the kinds of the print: a value of any printed kind that can be read is there, with its cells; no condition. -/
import Derived.Test.YtiaibplflmjohaaWWords
import Derived.Deep.Slices
import Derived.ChangeArms
import Derived.WideShapes
import Derived.SizedLaws
namespace Go.Proofs.Ytiaibplflmjohaa.GRd
open Go.RowKit Go.ChangeShapes Go.WideShapes Go.Deep Go.Proofs.YtiaibplflmjohaaW.PrintWords
set_option linter.unusedVariables false
/-- Whatever can be read as a datum of type t is a value of kind k, well formed. -/
structure Rdr {α : Type} (P : Program) (t : TypeId) (k : Kd α) (wf : α → Prop) : Prop where
  mk ::
  out : ∀ {H : Type} {enc : TypeId × Value → H} {w : World} {base : Nat} {spare : Nat → Bool} {held : Bool} {fuel : Nat} {cs : List Value} {x : DataW H × List MemPlace},
    DataW.trod enc P w base spare held fuel t cs = some x → (∀ n ∈ x.1.weights P t, n ≤ reachBytes) → ∃ v, k.K w v cs ∧ wf v
theorem rdr_int {P : Program} {t : TypeId} {q : IntKind} (hu : P.underlying t = some (.int q)) : Rdr P t (Kd.int q) (fun x => (Lit.int q x).wf = true) := by
  constructor
  intro H enc w base spare held fuel cs x h hz
  obtain ⟨n, rfl, _, hw⟩ := DataW.trod_int hu h
  exact ⟨n, rfl, hw⟩
theorem rdr_bool {P : Program} {t : TypeId} (hu : P.underlying t = some .bool) : Rdr P t Kd.bool (fun _ => True) := by
  constructor
  intro H enc w base spare held fuel cs x h hz
  obtain ⟨b, rfl, _⟩ := DataW.trod_bool hu h
  exact ⟨b, rfl, trivial⟩
theorem rdr_string {P : Program} {t : TypeId} (hu : P.underlying t = some .string) : Rdr P t Kd.string (fun s => s.size ≤ 140737488351232) := by
  constructor
  intro H enc w base spare held fuel cs x h hz
  obtain ⟨s, rfl, rfl, hs⟩ := DataW.trod_string hu h
  have := hz s.data.toList.length (by simp [DataW.weights])
  rw [data_length] at this
  exact ⟨s, rfl, this⟩
theorem weightsAll_mem {H : Type} {P : Program} {e : TypeId} {d : DataW H} : ∀ {l : List (DataW H)}, d ∈ l → ∀ n ∈ d.weights P e, n ∈ DataW.weightsAll P e l
  | [], h, _, _ => by simp at h
  | x :: l, h, n, hn => by
    rw [DataW.weightsAll, List.mem_append]
    rcases List.mem_cons.1 h with rfl | h
    · exact .inl hn
    · exact .inr (weightsAll_mem h n hn)
theorem choose_list {α : Type} (n : Nat) (p : Nat → α → Prop) (h : ∀ i, i < n → ∃ v, p i v) : ∃ xs : List α, xs.length = n ∧ ∀ i v, xs[i]? = some v → p i v := by
  induction n with
  | zero => exact ⟨[], rfl, fun i v hv => by simp at hv⟩
  | succ n ih =>
    obtain ⟨xs, hl, hx⟩ := ih (fun i hi => h i (by omega))
    obtain ⟨v, hv⟩ := h n (by omega)
    refine ⟨xs ++ [v], by simp [hl], fun i u hu => ?_⟩
    rcases Nat.lt_or_ge i xs.length with hi | hi
    · rw [List.getElem?_append_left hi] at hu
      exact hx i u hu
    · rw [List.getElem?_append_right hi] at hu
      have hi' : i - xs.length = 0 := by
        have := (List.getElem?_eq_some_iff.1 hu).1
        simp at this
        omega
      rw [hi'] at hu
      have : u = v := by simpa using hu.symm
      subst this
      have : i = n := by omega
      subst this
      exact hv
theorem rdr_slice {α : Type} {P : Program} {t e : TypeId} {k : Kd α} {wf : α → Prop} (hu : P.underlying t = some (.slice e)) (hC : P.cellsOf e = k.sz) {B : Nat} (hB : P.bytesOf e = B) (hk : Rdr P e k wf) :
    Rdr P t (Kd.slice e k) (fun l => l.length ≤ maxLen ∧ l.length * B ≤ 140737488351232 ∧ ∀ x ∈ l, wf x) := by
  constructor
  intro H enc w base spare held fuel cs x h hz
  rcases open_slice hu h with ⟨rfl, _⟩ | ⟨a, len, cap, m, n, D, Pl, rfl, hb, hl, hm, hmm, hx, hi⟩
  · refine ⟨[], ⟨none, 0, rfl, by simp, ?_⟩, by simp, by simp, by simp⟩
    exact ⟨rfl, by simp, fun h => absurd h (by simp)⟩
  · have hlm : len ≤ m := by rw [hmm]; split <;> omega
    have hzl : len * B ≤ 140737488351232 := by
      have h1 := hz ((((List.range len).map D).length + ((List.range (m - len)).map fun j => D (len + j)).length) * P.bytesOf e) (by rw [hx]; simp [DataW.weights, hu])
      rw [hB, List.length_map, List.length_range] at h1
      exact Nat.le_trans (Nat.mul_le_mul_right _ (Nat.le_add_right _ _)) h1
    have hze : ∀ i, i < len → ∀ n ∈ (D i).weights P e, n ≤ reachBytes := by
      intro i hil n hn
      refine hz n ?_
      rw [hx]
      simp only [DataW.weights, hu]
      refine List.mem_cons_of_mem _ (List.mem_append_left _ ?_)
      exact weightsAll_mem (List.mem_map.2 ⟨i, List.mem_range.2 hil, rfl⟩) n hn
    have hall : ∀ i, i < len → ∃ v, (∃ c, c.length = k.sz ∧ k.K w v c ∧ ∀ j u, c[j]? = some u → w.cell? (a.add (i * k.sz + j)) = some u) ∧ wf v := by
      intro i hil
      obtain ⟨cs', hc, ht⟩ := hi i (by omega)
      obtain ⟨v, hv, hw⟩   := hk.out ht (hze i hil)
      obtain ⟨_, hcl, hat⟩ := World.cells?_some hc
      refine ⟨v, ⟨cs', by rw [hcl, hC], hv, fun j u hj => ?_⟩, hw⟩
      have hjl : j < P.cellsOf e := by
        have := (List.getElem?_eq_some_iff.1 hj).1
        omega
      have := hat j hjl
      rw [hC] at this
      rw [← Go.Deep.add_add, this, hj]
    obtain ⟨xs, hxl, hxs⟩ := choose_list len _ hall
    refine ⟨xs, ⟨some a, cap, by rw [hxl], by omega, ?_⟩, by omega, by rw [hxl]; exact hzl, fun v hv => ?_⟩
    · unfold maxLen at hm
      refine ⟨rfl, by omega, fun _ => ⟨a, rfl, fun j p hj => ?_⟩⟩
      obtain ⟨⟨c, h1, h2, h3⟩, _⟩ := hxs j p hj
      exact ⟨c, h1, h2, h3⟩
    · obtain ⟨i, hi', rfl⟩ := List.getElem_of_mem hv
      exact (hxs i _ (List.getElem?_eq_getElem hi')).2
/-- Fields that stand behind one another, from a cell on. -/
structure RdF {α : Type} (P : Program) (fs : List Field) (o : Nat) (k : Kd α) (wf : α → Prop) : Prop where
  mk ::
  out : ∀ {H : Type} {enc : TypeId × Value → H} {w : World} {base : Nat} {spare : Nat → Bool} {held : Bool} {n : Nat} {cs : List Value}, cs.length = o + k.sz →
    (∀ (f : Field), f ∈ fs → ∃ y, DataW.trod enc P w base spare held n f.type ((cs.drop f.offset).take (P.cellsOf f.type)) = some y ∧ ∀ n ∈ y.1.weights P f.type, n ≤ reachBytes) → ∃ v, k.K w v (cs.drop o) ∧ wf v
theorem rdf_last {α : Type} {P : Program} {f : Field} {o : Nat} {k : Kd α} {wf : α → Prop} (ho : f.offset = o) (hC : P.cellsOf f.type = k.sz) (hk : Rdr P f.type k wf) : RdF P [f] o k wf := by
  constructor
  intro H enc w base spare held n cs hl h
  obtain ⟨y, hy, hz⟩ := h f (List.mem_singleton.2 rfl)
  obtain ⟨v, hv, hw⟩ := hk.out hy hz
  refine ⟨v, ?_, hw⟩
  rw [ho, hC, List.take_of_length_le (by simp; omega)] at hv
  exact hv
theorem rdf_cons {α β : Type} {P : Program} {f : Field} {fs : List Field} {o : Nat} {a : Kd α} {b : Kd β} {wa : α → Prop} {wb : β → Prop} (ho : f.offset = o) (hC : P.cellsOf f.type = a.sz) (ha : Rdr P f.type a wa) (hb : RdF P fs (o + a.sz) b wb) :
    RdF P (f :: fs) o (Kd.pair a b) (fun v => wa v.1 ∧ wb v.2) := by
  constructor
  intro H enc w base spare held n cs hl h
  obtain ⟨y, hy, hz⟩ := h f (List.mem_cons_self)
  obtain ⟨v, hv, hw⟩ := ha.out hy hz
  have hl' : cs.length = o + (a.sz + b.sz) := hl
  obtain ⟨u, hu, hq⟩ := hb.out (by rw [hl']; omega) (fun g hg => h g (List.mem_cons_of_mem _ hg))
  refine ⟨(v, u), ⟨(cs.drop o).take a.sz, cs.drop (o + a.sz), ?_, ?_, hu⟩, hw, hq⟩
  · rw [← List.drop_drop, List.take_append_drop]
  · rw [ho, hC] at hv
    exact hv
theorem rdr_struct {α : Type} {P : Program} {t : TypeId} {fs : Array Field} {k : Kd α} {wf : α → Prop} (hu : P.underlying t = some (.struct fs)) (hC : P.cellsOf t = k.sz) (hk : RdF P fs.toList 0 k wf) : Rdr P t k wf := by
  constructor
  intro H enc w base spare held fuel cs x h hz
  obtain ⟨xs, n, _, hx, hl, hxl, hf⟩ := DataW.trod_struct hu h
  rw [hx] at hz
  simp only [DataW.weights, hu] at hz
  obtain ⟨v, hv, hw⟩ := hk.out (n := n) (cs := cs) (by rw [hl, hC]; omega) (fun f hfm => by
    obtain ⟨i, hi, rfl⟩ := List.getElem_of_mem hfm
    have hi2 : i < fs.size := by simpa using hi
    have hx := hf i (fs.toList[i]) (by rw [Array.getElem_toList]; exact Array.getElem?_eq_getElem hi2)
    rw [List.getElem?_eq_getElem (by omega)] at hx
    refine ⟨_, hx, fun m hm => hz m ?_⟩
    refine DataW.weights_mem_each (j := i) (t := fs.toList[i].type) (d := (xs[i]'(by omega)).1) ?_ ?_ m hm
    · rw [List.getElem?_map, List.getElem?_eq_getElem hi]; rfl
    · rw [List.getElem?_map, List.getElem?_eq_getElem (by omega)]; rfl)
  exact ⟨v, hv, hw⟩
theorem rdr_iso {α β : Type} {P : Program} {t : TypeId} {k : Kd α} {wf : α → Prop} (f : β → α) (g : α → β) (hg : ∀ x, f (g x) = x) (hk : Rdr P t k wf) : Rdr P t (Kd.iso k f) (fun y => wf (f y)) := by
  constructor
  intro H enc w base spare held fuel cs x h hz
  obtain ⟨v, hv, hw⟩ := hk.out h hz
  exact ⟨g v, by show k.K w (f (g v)) cs; rw [hg]; exact hv, by show wf (f (g v)); rw [hg]; exact hw⟩
theorem rdr_imp {α : Type} {P : Program} {t : TypeId} {k : Kd α} {wf wf' : α → Prop} (hk : Rdr P t k wf) (hi : ∀ x, wf x → wf' x) : Rdr P t k wf' := by
  constructor
  intro H enc w base spare held fuel cs x h hz
  obtain ⟨v, hv, hw⟩ := hk.out h hz
  exact ⟨v, hv, hi v hw⟩
/-- The j-th argument's weights. -/
theorem weights_at {H : Type} {P : Program} {ts : List TypeId} {ds : List (DataW H)} {j : Nat} {t : TypeId} {d : DataW H} (h : (DataW.weightsEach P ts ds).all (· ≤ reachBytes) = true) (ht : ts[j]? = some t) (hd : ds[j]? = some d) :
    ∀ n ∈ d.weights P t, n ≤ reachBytes := fun n hn => by
  have := List.all_eq_true.1 h _ (DataW.weights_mem_each ht hd n hn)
  simpa using this
/-- An argument that is a slice. -/
theorem arg_slice {α : Type} {H : Type} {enc : TypeId × Value → H} {P : Program} {W : World} {base : Nat} {spare : Nat → Bool} {held : Bool} {t e : TypeId} {k : Kd α} {wf : List α → Prop} {v : Value} {d : DataW H} {ps : List MemPlace}
    (hk : Rdr P t (Kd.slice e k) wf) (h : DataW.Trod enc P W base spare held t v d ps) (hz : ∀ n ∈ d.weights P t, n ≤ reachBytes) (hv : ∃ a len cap, v = .slice a len cap) :
    ∃ (A : Option Addr) (c : Nat) (l : List α), v = .slice A l.length c ∧ l.length ≤ c ∧ k.C W A l.length l ∧ wf l := by
  obtain ⟨a, len, cap, rfl⟩ := hv
  obtain ⟨fuel, hf⟩ := h
  obtain ⟨l, ⟨A, c, hcs, hc, hr⟩, hw⟩ := hk.out hf hz
  have hcs' : [Value.slice a len cap] = [.slice A l.length c] := by simpa [Value.cells] using hcs
  exact ⟨A, c, l, List.singleton_inj.1 hcs', hc, hr, hw⟩
/-- An argument that is a struct. -/
theorem arg_struct {α : Type} {H : Type} {enc : TypeId × Value → H} {P : Program} {W : World} {base : Nat} {spare : Nat → Bool} {held : Bool} {t : TypeId} {k : Kd α} {wf : α → Prop} {v : Value} {d : DataW H} {ps : List MemPlace}
    (hk : Rdr P t k wf) (h : DataW.Trod enc P W base spare held t v d ps) (hz : ∀ n ∈ d.weights P t, n ≤ reachBytes) (hv : ∃ cs, v = .agg cs) :
    ∃ (cs : List Value) (x : α), v = .agg cs.toArray ∧ k.K W x cs ∧ wf x := by
  obtain ⟨cs, rfl⟩ := hv
  obtain ⟨fuel, hf⟩ := h
  obtain ⟨x, hx, hw⟩ := hk.out hf hz
  exact ⟨cs.toList, x, by simp, by simpa [Value.cells] using hx, hw⟩
end Go.Proofs.Ytiaibplflmjohaa.GRd
