/- A map with whole numbers for keys, made by literal inserts and asked: what the two operations do. No program in sight. -/
import Derived.Test.YtiaibplflmjohaaWWords
import Derived.Maps.Own
namespace Go.Proofs.Ytiaibplflmjohaa.GMap
open Go.RowKit Go.Proofs.YtiaibplflmjohaaW.PrintWords
set_option linter.unusedVariables false
/-- No entry has this key. -/
def noKey (q : IntKind) (k : Int) : List MapEntry → Bool
  | [] => true
  | e :: es => (match e.key with | .int q' a => decide (q = q') && !(k == a) | _ => false) && noKey q k es
theorem noKey_nil (q : IntKind) (k : Int) : noKey q k [] = true := rfl
theorem noKey_cons (q : IntKind) (k a : Int) (v : Value) (b : Nat) (es : List MapEntry) : noKey q k ({ key := .int q a, val := v, born := b } :: es) = (!(k == a) && noKey q k es) := by simp [noKey]
theorem findNow_none {q : IntKind} {k : Int} : ∀ (es : List MapEntry) (i : Nat), noKey q k es = true → Instr.findNow (.int q) (.int q k) es i = some none
  | [], _, _ => rfl
  | e :: es, i, h => by
    rw [noKey, Bool.and_eq_true] at h
    obtain ⟨h1, h2⟩ := h
    split at h1
    · rename_i q' a hk
      simp only [Bool.and_eq_true, decide_eq_true_eq] at h1
      obtain ⟨rfl, h1⟩ := h1
      have h3 : (k == a) = false := by simpa using h1
      rw [Instr.findNow, hk]
      simp only [Instr.sameNow, if_true, h3]
      exact findNow_none es (i + 1) h2
    · cases h1
/-- The entry with this key. -/
def keyed (q : IntKind) (k : Int) : List MapEntry → Option (Option Value)
  | [] => some none
  | e :: es => match e.key with | .int q' a => if q = q' then (if k = a then some (some e.val) else keyed q k es) else none | _ => none
theorem findNow_keyed {q : IntKind} {k : Int} {r : Option Value} : ∀ (es : List MapEntry) (i : Nat), keyed q k es = some r → ∃ z, Instr.findNow (.int q) (.int q k) es i = some z ∧ z.map (·.2) = r
  | [], _, h => ⟨none, rfl, by cases h; rfl⟩
  | e :: es, i, h => by
    rw [keyed] at h
    split at h
    · rename_i q' a hk
      split at h
      · rename_i hq
        subst hq
        rw [Instr.findNow, hk]
        simp only [Instr.sameNow, if_true]
        by_cases hka : k = a
        · rw [if_pos hka] at h
          cases h
          rw [beq_iff_eq.2 hka]
          exact ⟨_, rfl, rfl⟩
        · rw [if_neg hka] at h
          rw [beq_eq_false_iff_ne.2 hka]
          exact findNow_keyed es (i + 1) h
      · cases h
    · cases h
section
variable {P : Program}
theorem checkKey_int {q : IntKind} {kt : TypeId} (hk : P.underlying kt = some (.int q)) (b : Bool) (n : Nat) (v : Value) (w : World) : (Instr.checkKey b (n + 1) kt v).run P w = .ok () w := by
  unfold Instr.checkKey
  simp [run_underlying hk]
theorem run_findKey {q : IntKind} {kt : TypeId} (hk : P.underlying kt = some (.int q)) (k : Int) (es : List MapEntry) (z : Option (Nat × Value)) (h : Instr.findNow (.int q) (.int q k) es 0 = some z) (w : World) : (Instr.findKey kt (.int q k) es).run P w = .ok z w := by
  unfold Instr.findKey
  simp [run_underlying hk, h]
/-- A literal's insert, into the map that was made last. -/
theorem run_insert {q : IntKind} {t kt et : TypeId} (ht : P.underlying t = some (.map kt et)) (hk : P.underlying kt = some (.int q)) (w : World) (es : Array MapEntry) (c : Nat) (k : Int) (v : Value) (hn : noKey q k es.toList = true) :
    (Instr.mapUpdate t (.map (some w.heap.size)) (.int q k) v).run P (w.alloc (.map es c)) = .ok () (w.alloc (.map (es.push { key := .int q k, val := v, born := c }) (c + 1))) := by
  have hb : (w.alloc (.map es c)).heap[w.heap.size]? = some (.map es c) := heap_alloc_new w _
  have hf := run_findKey hk k es.toList none (findNow_none es.toList 0 hn) (w.alloc (.map es c))
  have hc := checkKey_int hk false 9999 (.int q k) (w.alloc (.map es c))
  unfold Instr.mapUpdate
  simp only [Sem.run_bind, run_underlying ht, Result.andThen_ok, MapKept.run_getObj_map hb, hc, hf, MapKept.run_setObj_map _ hb]
  have hset : ((w.heap.push (.map es c)).setIfInBounds w.heap.size (.map (es.push { key := .int q k, val := v, born := c }) (c + 1))) = w.heap.push (.map (es.push { key := .int q k, val := v, born := c }) (c + 1)) := by
    apply Array.ext'
    rw [Array.toList_setIfInBounds, Array.toList_push, Array.toList_push, List.set_append_right _ _ (by simp)]
    simp
  show Result.ok () { w with heap := (w.heap.push (.map es c)).setIfInBounds w.heap.size _ } = _
  rw [hset]
  rfl
theorem run_lookup {q : IntKind} {t kt et : TypeId} (ht : P.underlying t = some (.map kt et)) (hk : P.underlying kt = some (.int q)) {z : Value} (w : World) (hz : (zeroValue et).run P w = .ok z w) (b : Nat) (es : Array MapEntry) (c : Nat) (hb : w.heap[b]? = some (.map es c)) (k : Int) (r : Option Value) (hr : keyed q k es.toList = some r) :
    (Instr.lookup t (.map (some b)) (.int q k) true).run P w = .ok (.tuple #[r.getD z, .bool r.isSome]) w := by
  obtain ⟨u, hu, hr2⟩ := findNow_keyed es.toList 0 hr
  have hf := run_findKey hk k es.toList u hu w
  have hc := checkKey_int hk es.isEmpty 9999 (.int q k) w
  unfold Instr.lookup
  simp only [Sem.run_bind, Sem.run_pure, run_underlying ht, Result.andThen_ok, MapKept.run_getObj_map hb, hc, hf]
  cases u with
  | none => subst hr2; simp [hz]
  | some p => subst hr2; simp
end
end Go.Proofs.Ytiaibplflmjohaa.GMap
