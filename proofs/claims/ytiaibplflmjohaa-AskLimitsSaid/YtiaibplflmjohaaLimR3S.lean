/- Of this session: a machine of its own, proved beside the model, and what the functions of the row come to on it; Lean checks all of it. -/
import Derived.Test.YtiaibplflmjohaaLimR3P
set_option linter.unusedVariables false
set_option linter.unusedSimpArgs false
namespace Go.Proofs
open Go Go.Abs
set_option linter.unusedVariables false
set_option maxRecDepth 100000

/-! The table of functions -/
structure Knd where
  read : Nat
  bits : Nat
  words : Nat
  one : Bool
def kindF (f : Nat) : Option Knd :=
  if f = 1 ∨ f = 2 then some ⟨2000, 0, 0, false⟩ else if f = 3 ∨ f = 4 then some ⟨125, 0, 0, false⟩ else if f = 5 then some ⟨0, 1, 0, true⟩ else if f = 6 then some ⟨0, 0, 1, true⟩
  else if f = 15 then some ⟨0, 1968, 0, false⟩ else if f = 16 then some ⟨0, 0, 123, false⟩ else if f = 23 then some ⟨125, 0, 121, false⟩ else none
def kv (r b w : Nat) (o : Bool) : Value := .agg #[.int .i64 r, .int .i64 b, .int .i64 w, .bool o]
def kndV : Option Knd → Value
  | some k => .tuple #[kv k.read k.bits k.words k.one, .bool true]
  | none => .tuple #[kv 0 0 0 false, .bool false]
def tabK : List (Value × Value) := [1, 2, 3, 4, 5, 6, 15, 16, 23].filterMap fun (f : Nat) => (kindF f).map fun k => (.int .u8 f, kv k.read k.bits k.words k.one)
theorem tabGet0 : ((List.range 256).all fun f => match aget Try.prog 60 tabK (.int .u8 f) true with | some v => veq v (kndV (kindF f)) | none => false) = true := by kernel_rfl
theorem tabGet (f : Nat) (h : f < 256) : aget Try.prog 60 tabK (.int .u8 f) true = some (kndV (kindF f)) := by
  have := List.all_eq_true.1 tabGet0 f (List.mem_range.2 h)
  revert this
  cases aget Try.prog 60 tabK (.int .u8 f) true with
  | none => exact fun h => by cases h
  | some v => exact fun h => by rw [veq_sound _ _ h]

theorem upd1 : mapUpd Try.prog 60 [] (.int .u8 1) (kv 2000 0 0 false) = some (tabK.take 1) := by kernel_rfl
theorem upd2 : mapUpd Try.prog 60 (tabK.take 1) (.int .u8 2) (kv 2000 0 0 false) = some (tabK.take 2) := by kernel_rfl
theorem upd3 : mapUpd Try.prog 60 (tabK.take 2) (.int .u8 3) (kv 125 0 0 false) = some (tabK.take 3) := by kernel_rfl
theorem upd4 : mapUpd Try.prog 60 (tabK.take 3) (.int .u8 4) (kv 125 0 0 false) = some (tabK.take 4) := by kernel_rfl
theorem upd5 : mapUpd Try.prog 60 (tabK.take 4) (.int .u8 5) (kv 0 1 0 true) = some (tabK.take 5) := by kernel_rfl
theorem upd6 : mapUpd Try.prog 60 (tabK.take 5) (.int .u8 6) (kv 0 0 1 true) = some (tabK.take 6) := by kernel_rfl
theorem upd7 : mapUpd Try.prog 60 (tabK.take 6) (.int .u8 15) (kv 0 1968 0 false) = some (tabK.take 7) := by kernel_rfl
theorem upd8 : mapUpd Try.prog 60 (tabK.take 7) (.int .u8 16) (kv 0 0 123 false) = some (tabK.take 8) := by kernel_rfl
theorem upd9 : mapUpd Try.prog 60 (tabK.take 8) (.int .u8 23) (kv 125 0 121 false) = some tabK := by kernel_rfl
theorem bl1 : buildL Try.prog 58 [(0, (.int .i64 2000))] = some [.int .i64 2000, .int .i64 0, .int .i64 0, .bool false] := by kernel_rfl
theorem bl2 : buildL Try.prog 58 [(0, (.int .i64 125))] = some [.int .i64 125, .int .i64 0, .int .i64 0, .bool false] := by kernel_rfl
theorem bl3 : buildL Try.prog 58 [(1, (.int .i64 1)), (3, (.bool true))] = some [.int .i64 0, .int .i64 1, .int .i64 0, .bool true] := by kernel_rfl
theorem bl4 : buildL Try.prog 58 [(2, (.int .i64 1)), (3, (.bool true))] = some [.int .i64 0, .int .i64 0, .int .i64 1, .bool true] := by kernel_rfl
theorem bl5 : buildL Try.prog 58 [(1, (.int .i64 1968))] = some [.int .i64 0, .int .i64 1968, .int .i64 0, .bool false] := by kernel_rfl
theorem bl6 : buildL Try.prog 58 [(2, (.int .i64 123))] = some [.int .i64 0, .int .i64 0, .int .i64 123, .bool false] := by kernel_rfl
theorem bl7 : buildL Try.prog 58 [(0, (.int .i64 125)), (2, (.int .i64 121))] = some [.int .i64 125, .int .i64 0, .int .i64 121, .bool false] := by kernel_rfl
theorem mapOk60 : mapOk Try.prog 60 none = some () := by kernel_rfl
theorem kinds_ev {H : Heap} {Q : Value → Heap → Prop} (h : Q (.map (some H.n)) (H.push (.map tabK))) : Ev Try.prog orcS 33 #[] H Q := by
  refine ev33 ?_
  unfold W33 letK
  have e : ∀ a b c d : Value, Value.agg (List.toArray [a, b, c, d]) = .agg #[a, b, c, d] := fun _ _ _ _ => rfl
  have k (r b w : Nat) (o : Bool) : Value.agg #[.int .i64 r, .int .i64 b, .int .i64 w, .bool o] = kv r b w o := rfl
  have k1 : Value.agg #[.int .i64 2000, .int .i64 0, .int .i64 0, .bool false] = kv 2000 0 0 false := rfl
  have k2 : Value.agg #[.int .i64 125, .int .i64 0, .int .i64 0, .bool false] = kv 125 0 0 false := rfl
  have k3 : Value.agg #[.int .i64 0, .int .i64 1, .int .i64 0, .bool true] = kv 0 1 0 true := rfl
  have k4 : Value.agg #[.int .i64 0, .int .i64 0, .int .i64 1, .bool true] = kv 0 0 1 true := rfl
  have k5 : Value.agg #[.int .i64 0, .int .i64 1968, .int .i64 0, .bool false] = kv 0 1968 0 false := rfl
  have k6 : Value.agg #[.int .i64 0, .int .i64 0, .int .i64 123, .bool false] = kv 0 0 123 false := rfl
  have k7 : Value.agg #[.int .i64 125, .int .i64 0, .int .i64 121, .bool false] = kv 125 0 121 false := rfl
  simp only [mapOk60, bl1, bl2, bl3, bl4, bl5, bl6, bl7, obind_some', e, k1, k2, k3, k4, k5, k6, k7, aupdate_push, upd1, upd2, upd3, upd4, upd5, upd6, upd7, upd8, upd9, Option.map_some]
  exact h

/-! Lists as long as may be -/
def listedF (n most : Nat) : Bool := if most = 0 then decide (n = 0) else decide (1 ≤ n) && decide (n ≤ most)
theorem listed_ev {n most : Nat} {H : Heap} {Q : Value → Heap → Prop} (h : Q (.bool (listedF n most)) H) : Ev Try.prog orcS 34 #[.int .i64 n, .int .i64 most] H Q := by
  refine ev34 _ _ ?_
  unfold W34
  simp only [abin_eql, abin_geq, abin_leq, obind_some', condB_bool']
  refine ifB_dec (fun e => ?_) (fun e => ?_)
  · have : listedF n most = decide ((n : Int) = 0) := by unfold listedF; rw [if_pos (by omega)]; exact decide_eq_decide.2 (by omega)
    rw [← this]; exact h
  · refine ifB_dec (fun e2 => ?_) (fun e2 => ?_)
    · have : listedF n most = decide ((n : Int) ≤ most) := by unfold listedF; rw [if_neg (by omega)]; simp; omega
      rw [← this]; exact h
    · have : listedF n most = false := by unfold listedF; rw [if_neg (by omega)]; simp; omega
      rw [← this]; exact h
end Go.Proofs
