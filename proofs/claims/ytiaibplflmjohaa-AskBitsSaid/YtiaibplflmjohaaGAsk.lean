/- The table of requests' kinds, and which requests are right: contracts of ask.kinds and ask.Right. No condition. -/
import Derived.Test.YtiaibplflmjohaaProg
import Derived.Test.YtiaibplflmjohaaWWords
import Derived.Test.YtiaibplflmjohaaGMap
import Derived.WalkKit
import Derived.KernelRfl
import Derived.Below
import Derived.Tactics
import Derived.Tactics2
import Derived.Deep.RegionHeld3
import Derived.Deep.DeepCutAuto
namespace Go.Proofs.Ytiaibplflmjohaa.GAsk
open Go.RowKit Go.Proofs.YtiaibplflmjohaaW.PrintWords
set_option linter.unusedVariables false
set_option linter.unusedSimpArgs false
def rec4 (a b c : Int) (d : Bool) : Value := .agg #[.int .i64 a, .int .i64 b, .int .i64 c, .bool d]
def entry (k : Int) (v : Value) (b : Nat) : MapEntry := { key := .int .u8 k, val := v, born := b }
def kindsEs : Array MapEntry := #[entry 1 (rec4 2000 0 0 false) 0, entry 2 (rec4 2000 0 0 false) 1, entry 3 (rec4 125 0 0 false) 2, entry 4 (rec4 125 0 0 false) 3, entry 5 (rec4 0 1 0 true) 4, entry 6 (rec4 0 0 1 true) 5, entry 15 (rec4 0 1968 0 false) 6, entry 16 (rec4 0 0 123 false) 7, entry 23 (rec4 125 0 121 false) 8]
set_option maxHeartbeats 1000000 in
theorem kinds_any (w : World) : Calls Try.prog 33 #[] w fun e w' => e = .returned (.map (some w.heap.size)) ∧ w' = w.alloc (.map kindsEs 9) := by
  have hins := fun (w : World) (es : Array MapEntry) (c : Nat) (k : Int) (v : Value) (h : GMap.noKey .u8 k es.toList = true) => GMap.run_insert (P := Try.prog) (q := .u8) (t := 60) (et := 58) Try.underlying60 Try.underlying5 w es c k v h
  have hn0 := GMap.noKey_nil
  have hn1 := GMap.noKey_cons
  have hmm := @run_makeMap Try.prog
  go_enter Try.func33, Try.ntmps33
  go_wp2
  go_ret
  exact ⟨rfl, rfl⟩
/-- What the table has of a function. -/
def kindOf (f : Int) : Option (Int × Int × Int × Bool) :=
  if f = 1 ∨ f = 2 then some (2000, 0, 0, false) else if f = 3 ∨ f = 4 then some (125, 0, 0, false) else if f = 5 then some (0, 1, 0, true) else if f = 6 then some (0, 0, 1, true)
  else if f = 15 then some (0, 1968, 0, false) else if f = 16 then some (0, 0, 123, false) else if f = 23 then some (125, 0, 121, false) else none
def kindV (f : Int) : Value := match kindOf f with | some (a, b, c, d) => rec4 a b c d | none => rec4 0 0 0 false
theorem keyed_kinds (f : Int) : GMap.keyed .u8 f kindsEs.toList = some ((kindOf f).map fun x => rec4 x.1 x.2.1 x.2.2.1 x.2.2.2) := by
  show GMap.keyed .u8 f [entry 1 (rec4 2000 0 0 false) 0, entry 2 (rec4 2000 0 0 false) 1, entry 3 (rec4 125 0 0 false) 2, entry 4 (rec4 125 0 0 false) 3, entry 5 (rec4 0 1 0 true) 4, entry 6 (rec4 0 0 1 true) 5, entry 15 (rec4 0 1968 0 false) 6, entry 16 (rec4 0 0 123 false) 7, entry 23 (rec4 125 0 121 false) 8] = _
  unfold kindOf
  simp only [GMap.keyed, entry, if_true]
  by_cases h1 : f = 1
  · subst h1; rfl
  by_cases h2 : f = 2
  · subst h2; rfl
  by_cases h3 : f = 3
  · subst h3; rfl
  by_cases h4 : f = 4
  · subst h4; rfl
  by_cases h5 : f = 5
  · subst h5; rfl
  by_cases h6 : f = 6
  · subst h6; rfl
  by_cases h15 : f = 15
  · subst h15; rfl
  by_cases h16 : f = 16
  · subst h16; rfl
  by_cases h23 : f = 23
  · subst h23; rfl
  simp [h1, h2, h3, h4, h5, h6, h15, h16, h23]
theorem look_kinds (f : Int) (W : World) (b : Nat) (hb : W.heap[b]? = some (.map kindsEs 9)) :
    (Instr.lookup 60 (.map (some b)) (.int .u8 f) true).run Try.prog W = .ok (.tuple #[kindV f, .bool (kindOf f).isSome]) W := by
  have h := GMap.run_lookup (P := Try.prog) (z := rec4 0 0 0 false) Try.underlying60 Try.underlying5 W (Try.zeroValue58 W) b kindsEs 9 hb f _ (keyed_kinds f)
  rw [h]
  unfold kindV
  cases kindOf f <;> rfl
end Go.Proofs.Ytiaibplflmjohaa.GAsk
