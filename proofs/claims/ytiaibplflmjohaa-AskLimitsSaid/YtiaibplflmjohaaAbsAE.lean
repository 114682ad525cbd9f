/- The abstract machine: maps, rows, evaluated. -/
import Derived.Test.YtiaibplflmjohaaAbsAD
import Derived.IntWalk
set_option linter.unusedVariables false
set_option linter.unusedSimpArgs false
namespace Go.Abs
open Go Go.RowKit
set_option linter.unusedVariables false
set_option linter.unusedSimpArgs false
theorem set_push_self (H : Heap) (b b' : Blk) : (H.push b).set H.n b' = H.push b' := by
  simp [Heap.set, Heap.push]
def mapUpd (P : Program) (t : TypeId) (es : List (Value × Value)) (k v : Value) : Option (List (Value × Value)) :=
  match mapT P t with
  | some (key, elem) =>
    match findT P key k es with
    | some (some i) => match es[i]? with
      | some e => if Instr.sameBits 10000 e.1 k then some (es.set i (k, v)) else none
      | none => none
    | some none => some (es ++ [(k, v)])
    | none => none
  | none => none
theorem aupdate_map {P : Program} {t : TypeId} {id : Nat} {es : List (Value × Value)} {k v : Value} {H : Heap} (h : H.get id = some (.map es)) :
    aupdate P t (.map (some id)) k v H = (mapUpd P t es k v).map fun es' => H.set id (.map es') := by
  unfold aupdate mapUpd
  simp only [h]
  cases mapT P t with
  | none => rfl
  | some ke =>
    simp only
    cases findT P ke.1 k es with
    | none => rfl
    | some o =>
      cases o with
      | none => rfl
      | some i =>
        simp only
        cases es[i]? with
        | none => rfl
        | some e => simp only; split <;> rfl
theorem aupdate_push {P : Program} {t : TypeId} {es : List (Value × Value)} {k v : Value} {H : Heap} :
    aupdate P t (.map (some H.n)) k v (H.push (.map es)) = (mapUpd P t es k v).map fun es' => H.push (.map es') := by
  rw [aupdate_map (get_push_self _ _)]
  simp only [set_push_self]
theorem alookup_map {P : Program} {t : TypeId} {id : Nat} {es : List (Value × Value)} {k : Value} {ok : Bool} {H : Heap} (h : H.get id = some (.map es)) :
    alookup P t (.map (some id)) k ok H = aget P t es k ok := by
  unfold alookup
  simp only [h]
theorem PushExt.set {H H1 : Heap} (p : PushExt H H1) {id : Nat} (h : H.n ≤ id) (b : Blk) : PushExt H (H1.set id b) :=
  ⟨by simpa using p.1, fun i hi => by rw [get_set_other _ _ (by omega)]; exact p.2 i hi⟩
theorem PushExt.push' {H H1 : Heap} (p : PushExt H H1) (b : Blk) : PushExt H (H1.push b) := p.trans (PushExt.push _ _)
theorem aconvert_int {P : Program} {a b : TypeId} {d : TypeDesc} {j k : IntKind} (n : Int) (H : Heap) (ha : P.underlying a = some d) (hb : P.underlying b = some (.int j)) : aconvert P a b (.int k n) H = some (.int j (j.wrap n)) := by
  have e : aconvert P a b (.int k n) H = if flat (.int k n) then flatRes (purely P (Go.convert a b (.int k n))) else none := rfl
  rw [e, if_pos (show flat (.int k n) = true from rfl)]
  unfold Go.convert
  rw [purely_bind', purely_under _ ha]
  simp only [Option.bind_some]
  rw [purely_bind', purely_under _ hb]
  simp [Conv.intToInt]

/-! Rows made -/
theorem repeatL_one (z : Value) : ∀ n, repeatL [z] n = List.replicate n z
  | 0 => rfl
  | n + 1 => by rw [repeatL, repeatL_one z n]; rfl
theorem makeS_one {P : Program} {t e bytes : Nat} {z : Value} {j k : IntKind} {n : Nat} (h : elemT P t = some (e, 1, bytes)) (hz : zeroT P e = some z) (hc : z.cells = #[z]) (hn : n < 2 ^ 47) (hb : n * bytes ≤ 2 ^ 47) :
    makeS P t (.int j n) (.int k n) = some (List.replicate n z, n, n) := by
  unfold makeS
  simp only [h, hz, hc]
  rw [if_pos (by refine ⟨by omega, by omega, by omega, ?_, rfl, by omega⟩; exact_mod_cast hb)]
  simp [repeatL_one]
theorem minV_int {P : Program} {ts : Array TypeId} {t : TypeId} {k : IntKind} (a b : Int) : minV P ts t #[.int k a, .int k b] = some (.int k (if b < a then b else a)) := by
  simp [minV, Builtin.min_, Builtin.min2]

/-! A part of a row -/
theorem boundV_int (k : IntKind) (n : Nat) {m : Nat} (h : n ≤ m) : boundV (.int k n) m = some n := by
  unfold boundV; simp; omega
theorem aslice_hi {P : Program} {t e size bytes id off n cap m : Nat} {k : IntKind} {H : Heap} {c : List Value} {md : Md} (h : elemT P t = some (e, size, bytes)) (hg : H.get id = some (.cells c md)) (hm : md.fits size = true) (hn : m ≤ cap) :
    aslice P t (slc id off n cap) none (some (.int k m)) none H = some (slc id off m cap) := by
  unfold aslice slc
  simp only [hg, h, hm, if_true]
  unfold boundsV
  simp [boundV_int k m hn]
theorem aslice_lo {P : Program} {t e size bytes id off n cap m : Nat} {k : IntKind} {H : Heap} {c : List Value} {md : Md} (h : elemT P t = some (e, size, bytes)) (hg : H.get id = some (.cells c md)) (hm : md.fits size = true) (hn : m ≤ n) (hc : n ≤ cap) :
    aslice P t (slc id off n cap) (some (.int k m)) none none H = some (slc id (if cap = m then off else off + m * size) (n - m) (cap - m)) := by
  unfold aslice slc
  simp only [hg, h, hm, if_true]
  unfold boundsV
  simp [boundV_int k m hn]
theorem aslice_lohi {P : Program} {t e size bytes id off n cap l m : Nat} {j k : IntKind} {H : Heap} {c : List Value} {md : Md} (h : elemT P t = some (e, size, bytes)) (hg : H.get id = some (.cells c md)) (hm : md.fits size = true) (hl : l ≤ m) (hn : m ≤ cap) :
    aslice P t (slc id off n cap) (some (.int j l)) (some (.int k m)) none H = some (slc id (if cap = l then off else off + l * size) (m - l) (cap - l)) := by
  unfold aslice slc
  simp only [hg, h, hm, if_true]
  unfold boundsV
  simp [boundV_int k m hn, boundV_int j l hl]

/-! Rows of equal parts -/
theorem flatMap_part {α : Type} (g : α → List Value) (w : Nat) (hg : ∀ a, (g a).length = w) : ∀ (l : List α) (i : Nat) (a : α), l[i]? = some a → ((l.flatMap g).drop (i * w)).take w = g a
  | [], i, a, h => by simp at h
  | x :: l, 0, a, h => by
    have : x = a := by simpa using h
    subst this
    rw [Nat.zero_mul, List.drop_zero, List.flatMap_cons, List.take_append_of_le_length (by rw [hg]; exact Nat.le_refl _), List.take_of_length_le (by rw [hg]; exact Nat.le_refl _)]
  | x :: l, i + 1, a, h => by
    have h' : l[i]? = some a := by simpa using h
    rw [List.flatMap_cons, List.drop_append, List.drop_eq_nil_of_le (by rw [hg, Nat.add_mul, Nat.one_mul]; exact Nat.le_add_left _ _), List.nil_append, hg]
    rw [show (i + 1) * w - w = i * w by rw [Nat.add_mul, Nat.one_mul, Nat.add_sub_cancel]]
    exact flatMap_part g w hg l i a h'
theorem flatMap_len {α : Type} (g : α → List Value) (w : Nat) (hg : ∀ a, (g a).length = w) : ∀ (l : List α), (l.flatMap g).length = l.length * w
  | [] => by simp
  | x :: l => by rw [List.flatMap_cons, List.length_append, hg, flatMap_len g w hg l, List.length_cons, Nat.add_mul, Nat.one_mul, Nat.add_comm]

/-! What comes behind: by name, so that nothing is unfolded -/
theorem seqK_normal (f : Array Value → Heap → (Ex → Array Value → Heap → Prop) → Prop) (K : Ex → Array Value → Heap → Prop) (ts : Array Value) (H : Heap) : seqK f K .normal ts H = f ts H K := propext Iff.rfl
theorem seqK_exit (f : Array Value → Heap → (Ex → Array Value → Heap → Prop) → Prop) (K : Ex → Array Value → Heap → Prop) (id : Nat) (ts : Array Value) (H : Heap) : seqK f K (.exit id) ts H = K (.exit id) ts H := propext Iff.rfl
theorem seqK_ret (f : Array Value → Heap → (Ex → Array Value → Heap → Prop) → Prop) (K : Ex → Array Value → Heap → Prop) (ts : Array Value) (H : Heap) : seqK f K .ret ts H = K .ret ts H := propext Iff.rfl
theorem blockK_normal (id : Nat) (K : Ex → Array Value → Heap → Prop) (ts : Array Value) (H : Heap) : blockK id K .normal ts H = K .normal ts H := propext Iff.rfl
theorem blockK_ret (id : Nat) (K : Ex → Array Value → Heap → Prop) (ts : Array Value) (H : Heap) : blockK id K .ret ts H = K .ret ts H := propext Iff.rfl
theorem blockK_hit (id : Nat) (K : Ex → Array Value → Heap → Prop) (ts : Array Value) (H : Heap) : blockK id K (.exit id) ts H = K .normal ts H := by simp [blockK]
theorem blockK_miss {id j : Nat} (h : j ≠ id) (K : Ex → Array Value → Heap → Prop) (ts : Array Value) (H : Heap) : blockK id K (.exit j) ts H = K (.exit j) ts H := by simp [blockK, h]
end Go.Abs
