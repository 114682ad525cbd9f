/-
  No cell of these rows narrows 'for every input' (looked for: loops, veiled, ifaces, maps, wideKeys, modest, calm, conditions, laid).
  DERIVED. THE GIVEN ROWS OF THIS SEAT. 10 by the template 'for every input the law returns true; each argument reads behind the call as it read before'; 0 by the template 'total and deterministic' (their statements: YthjpgccpnakfdaaTotals.lean).
  GIVEN WITH THE SEED: the statements are not yours to turn. If you find one false, say at which input.
  Laid BY PROGRAM, IN A SANDBOX (cutbox-rows.mjs): the forced cells as the released guide's own fill.sh prints them over the translation cb72c0e9ffa5ea76… (all of the seat's roots in one cut). By AI agents, Wed Nov 11 2026. No macro, syntax, notation, axiom, sorry.
-/
import Derived.Test.YthjpgccpnakfdaaChecked
import GoSem.Claim
import GoSem.ClaimJoined
import GoSem.ClaimMapViews
import Derived.JoinedTies
import Derived.KernelRfl
namespace Go.Proofs.Ythjpgccpnakfdaa
/- THE CELL 'sum', in the pinned program and in every row, IS THE sha256 OF THE DUMP (.gsa) THAT YthjpgccpnakfdaaProg.lean LOADS. Nothing in Lean hashes anything: it is a label: what it is worth is what the hold of that sum in a sandbox is worth. -/
noncomputable def Try.pinned : Pinned := { name := "ythjpgccpnakfdaa", sum := "cb72c0e9ffa5ea76a2023be978203b168aa289263abd86a8aa457461e52f5b9d", checked := Try.checked }
namespace Rows
def none {H : Type} : Left H := { results := [], args := [] }

/-- 'saucierlaw19.StageBack': WHATEVER THE INPUT: true; the input reads as it did. -/
def stageBackSpec : ChangeSpec := { name := "stageBack", fn := fun _ => fun
  | [d1, d2, d3, d4, d5] => { results := [.lit (.bool true)], args := [d1, d2, d3, d4, d5] }
  | _ => none }
def stageBackRow : OpenClaim := { program := "ythjpgccpnakfdaa", sum := "cb72c0e9ffa5ea76a2023be978203b168aa289263abd86a8aa457461e52f5b9d", func := "saucier/saucierlaw19.StageBack", spec := "stageBack", unfollowed := true, recurses := true, apart := false }
def StageBackSaid : Prop := stageBackRow.holds Try.pinned (OpenSpec.ofChange stageBackSpec)

/-- ITS FALSE NEIGHBOUR: 'it returns false'. Refute it at one input. -/
def stageBackWrong : ChangeSpec := { name := "stageBack", fn := fun _ => fun
  | [d1, d2, d3, d4, d5] => { results := [.lit (.bool false)], args := [d1, d2, d3, d4, d5] }
  | _ => none }
def StageBackWrongFalsely : Prop := stageBackRow.holds Try.pinned (OpenSpec.ofChange stageBackWrong)

/-- 'saucierlaw19.StageOne': WHATEVER THE INPUT: true; the input reads as it did. -/
def stageOneSpec : ChangeSpec := { name := "stageOne", fn := fun _ => fun
  | [d1, d2, d3, d4, d5, d6, d7, d8] => { results := [.lit (.bool true)], args := [d1, d2, d3, d4, d5, d6, d7, d8] }
  | _ => none }
def stageOneRow : OpenClaim := { program := "ythjpgccpnakfdaa", sum := "cb72c0e9ffa5ea76a2023be978203b168aa289263abd86a8aa457461e52f5b9d", func := "saucier/saucierlaw19.StageOne", spec := "stageOne", unfollowed := true, recurses := true, apart := false }
def StageOneSaid : Prop := stageOneRow.holds Try.pinned (OpenSpec.ofChange stageOneSpec)

/-- ITS FALSE NEIGHBOUR: 'it returns false'. Refute it at one input. -/
def stageOneWrong : ChangeSpec := { name := "stageOne", fn := fun _ => fun
  | [d1, d2, d3, d4, d5, d6, d7, d8] => { results := [.lit (.bool false)], args := [d1, d2, d3, d4, d5, d6, d7, d8] }
  | _ => none }
def StageOneWrongFalsely : Prop := stageOneRow.holds Try.pinned (OpenSpec.ofChange stageOneWrong)

/-- 'saucierlaw17.BankDiff': WHATEVER THE INPUT: true; the input reads as it did. -/
def bankDiffSpec : ChangeSpec := { name := "bankDiff", fn := fun _ => fun
  | [d1, d2, d3] => { results := [.lit (.bool true)], args := [d1, d2, d3] }
  | _ => none }
def bankDiffRow : OpenClaim := { program := "ythjpgccpnakfdaa", sum := "cb72c0e9ffa5ea76a2023be978203b168aa289263abd86a8aa457461e52f5b9d", func := "saucier/saucierlaw17.BankDiff", spec := "bankDiff", unfollowed := true, recurses := true, apart := false }
def BankDiffSaid : Prop := bankDiffRow.holds Try.pinned (OpenSpec.ofChange bankDiffSpec)

/-- ITS FALSE NEIGHBOUR: 'it returns false'. Refute it at one input. -/
def bankDiffWrong : ChangeSpec := { name := "bankDiff", fn := fun _ => fun
  | [d1, d2, d3] => { results := [.lit (.bool false)], args := [d1, d2, d3] }
  | _ => none }
def BankDiffWrongFalsely : Prop := bankDiffRow.holds Try.pinned (OpenSpec.ofChange bankDiffWrong)

/-- 'saucierlaw17.BankOver': WHATEVER THE INPUT: true; the input reads as it did. -/
def bankOverSpec : ChangeSpec := { name := "bankOver", fn := fun _ => fun
  | [d1, d2, d3] => { results := [.lit (.bool true)], args := [d1, d2, d3] }
  | _ => none }
def bankOverRow : OpenClaim := { program := "ythjpgccpnakfdaa", sum := "cb72c0e9ffa5ea76a2023be978203b168aa289263abd86a8aa457461e52f5b9d", func := "saucier/saucierlaw17.BankOver", spec := "bankOver", unfollowed := true, recurses := true, apart := false }
def BankOverSaid : Prop := bankOverRow.holds Try.pinned (OpenSpec.ofChange bankOverSpec)

/-- ITS FALSE NEIGHBOUR: 'it returns false'. Refute it at one input. -/
def bankOverWrong : ChangeSpec := { name := "bankOver", fn := fun _ => fun
  | [d1, d2, d3] => { results := [.lit (.bool false)], args := [d1, d2, d3] }
  | _ => none }
def BankOverWrongFalsely : Prop := bankOverRow.holds Try.pinned (OpenSpec.ofChange bankOverWrong)

/-- 'saucierlaw17.BankApart': WHATEVER THE INPUT: true; the input reads as it did. -/
def bankApartSpec : ChangeSpec := { name := "bankApart", fn := fun _ => fun
  | [d1, d2, d3] => { results := [.lit (.bool true)], args := [d1, d2, d3] }
  | _ => none }
def bankApartRow : OpenClaim := { program := "ythjpgccpnakfdaa", sum := "cb72c0e9ffa5ea76a2023be978203b168aa289263abd86a8aa457461e52f5b9d", func := "saucier/saucierlaw17.BankApart", spec := "bankApart", unfollowed := true, recurses := true, apart := false }
def BankApartSaid : Prop := bankApartRow.holds Try.pinned (OpenSpec.ofChange bankApartSpec)

/-- ITS FALSE NEIGHBOUR: 'it returns false'. Refute it at one input. -/
def bankApartWrong : ChangeSpec := { name := "bankApart", fn := fun _ => fun
  | [d1, d2, d3] => { results := [.lit (.bool false)], args := [d1, d2, d3] }
  | _ => none }
def BankApartWrongFalsely : Prop := bankApartRow.holds Try.pinned (OpenSpec.ofChange bankApartWrong)

/-- 'saucierlaw19.StageRefuses': WHATEVER THE INPUT: true; the input reads as it did. -/
def stageRefusesSpec : ChangeSpec := { name := "stageRefuses", fn := fun _ => fun
  | [d1, d2, d3, d4, d5, d6] => { results := [.lit (.bool true)], args := [d1, d2, d3, d4, d5, d6] }
  | _ => none }
def stageRefusesRow : OpenClaim := { program := "ythjpgccpnakfdaa", sum := "cb72c0e9ffa5ea76a2023be978203b168aa289263abd86a8aa457461e52f5b9d", func := "saucier/saucierlaw19.StageRefuses", spec := "stageRefuses", apart := false }
def StageRefusesSaid : Prop := stageRefusesRow.holds Try.pinned (OpenSpec.ofChange stageRefusesSpec)

/-- ITS FALSE NEIGHBOUR: 'it returns false'. Refute it at one input. -/
def stageRefusesWrong : ChangeSpec := { name := "stageRefuses", fn := fun _ => fun
  | [d1, d2, d3, d4, d5, d6] => { results := [.lit (.bool false)], args := [d1, d2, d3, d4, d5, d6] }
  | _ => none }
def StageRefusesWrongFalsely : Prop := stageRefusesRow.holds Try.pinned (OpenSpec.ofChange stageRefusesWrong)

/-- 'saucierlaw17.BankTells': WHATEVER THE INPUT: true; the input reads as it did. -/
def bankTellsSpec : ChangeSpec := { name := "bankTells", fn := fun _ => fun
  | [d1, d2, d3, d4] => { results := [.lit (.bool true)], args := [d1, d2, d3, d4] }
  | _ => none }
def bankTellsRow : OpenClaim := { program := "ythjpgccpnakfdaa", sum := "cb72c0e9ffa5ea76a2023be978203b168aa289263abd86a8aa457461e52f5b9d", func := "saucier/saucierlaw17.BankTells", spec := "bankTells", unfollowed := true, recurses := true, apart := false }
def BankTellsSaid : Prop := bankTellsRow.holds Try.pinned (OpenSpec.ofChange bankTellsSpec)

/-- ITS FALSE NEIGHBOUR: 'it returns false'. Refute it at one input. -/
def bankTellsWrong : ChangeSpec := { name := "bankTells", fn := fun _ => fun
  | [d1, d2, d3, d4] => { results := [.lit (.bool false)], args := [d1, d2, d3, d4] }
  | _ => none }
def BankTellsWrongFalsely : Prop := bankTellsRow.holds Try.pinned (OpenSpec.ofChange bankTellsWrong)

/-- 'saucierlaw17.BankRefuses': WHATEVER THE INPUT: true; the input reads as it did. -/
def bankRefusesSpec : ChangeSpec := { name := "bankRefuses", fn := fun _ => fun
  | [d1, d2, d3, d4] => { results := [.lit (.bool true)], args := [d1, d2, d3, d4] }
  | _ => none }
def bankRefusesRow : OpenClaim := { program := "ythjpgccpnakfdaa", sum := "cb72c0e9ffa5ea76a2023be978203b168aa289263abd86a8aa457461e52f5b9d", func := "saucier/saucierlaw17.BankRefuses", spec := "bankRefuses", unfollowed := true, recurses := true, apart := false }
def BankRefusesSaid : Prop := bankRefusesRow.holds Try.pinned (OpenSpec.ofChange bankRefusesSpec)

/-- ITS FALSE NEIGHBOUR: 'it returns false'. Refute it at one input. -/
def bankRefusesWrong : ChangeSpec := { name := "bankRefuses", fn := fun _ => fun
  | [d1, d2, d3, d4] => { results := [.lit (.bool false)], args := [d1, d2, d3, d4] }
  | _ => none }
def BankRefusesWrongFalsely : Prop := bankRefusesRow.holds Try.pinned (OpenSpec.ofChange bankRefusesWrong)

/-- 'saucierlaw19.StagePuts': WHATEVER THE INPUT: true; the input reads as it did. -/
def stagePutsSpec : ChangeSpec := { name := "stagePuts", fn := fun _ => fun
  | [d1, d2, d3, d4, d5, d6] => { results := [.lit (.bool true)], args := [d1, d2, d3, d4, d5, d6] }
  | _ => none }
def stagePutsRow : OpenClaim := { program := "ythjpgccpnakfdaa", sum := "cb72c0e9ffa5ea76a2023be978203b168aa289263abd86a8aa457461e52f5b9d", func := "saucier/saucierlaw19.StagePuts", spec := "stagePuts", unfollowed := true, recurses := true, apart := false }
def StagePutsSaid : Prop := stagePutsRow.holds Try.pinned (OpenSpec.ofChange stagePutsSpec)

/-- ITS FALSE NEIGHBOUR: 'it returns false'. Refute it at one input. -/
def stagePutsWrong : ChangeSpec := { name := "stagePuts", fn := fun _ => fun
  | [d1, d2, d3, d4, d5, d6] => { results := [.lit (.bool false)], args := [d1, d2, d3, d4, d5, d6] }
  | _ => none }
def StagePutsWrongFalsely : Prop := stagePutsRow.holds Try.pinned (OpenSpec.ofChange stagePutsWrong)

/-- 'saucierlaw19.StageWhole': WHATEVER THE INPUT: true; the input reads as it did. -/
def stageWholeSpec : ChangeSpec := { name := "stageWhole", fn := fun _ => fun
  | [d1, d2, d3, d4, d5] => { results := [.lit (.bool true)], args := [d1, d2, d3, d4, d5] }
  | _ => none }
def stageWholeRow : OpenClaim := { program := "ythjpgccpnakfdaa", sum := "cb72c0e9ffa5ea76a2023be978203b168aa289263abd86a8aa457461e52f5b9d", func := "saucier/saucierlaw19.StageWhole", spec := "stageWhole", unfollowed := true, recurses := true, apart := false }
def StageWholeSaid : Prop := stageWholeRow.holds Try.pinned (OpenSpec.ofChange stageWholeSpec)

/-- ITS FALSE NEIGHBOUR: 'it returns false'. Refute it at one input. -/
def stageWholeWrong : ChangeSpec := { name := "stageWhole", fn := fun _ => fun
  | [d1, d2, d3, d4, d5] => { results := [.lit (.bool false)], args := [d1, d2, d3, d4, d5] }
  | _ => none }
def StageWholeWrongFalsely : Prop := stageWholeRow.holds Try.pinned (OpenSpec.ofChange stageWholeWrong)

/- THE SECOND FORM. 'bulk': how many values and letters a reading holds, each counted each time it is reached (what is shared counts as often as it is met; a slice's spare places count too). A statement '..UptoSaid' is the law's where the arguments, and the package variables that the reading takes, are together of bulk at most 1048576: NARROWER than '..Said'. Prove '..Said' where nothing that the law and all that it calls make is longer than what came in: it says more and counts as full. Else prove '..UptoSaid'. A law counts once. -/
mutual
def uptoBulk {H : Type} : DataW H → Nat
  | .lit (.string bytes) => bytes.length + 1
  | .lit _ => 1
  | .nil => 1
  | .ptr d => uptoBulk d + 1
  | .slice elems spare => uptoBulkAll elems + uptoBulkAll spare + 1
  | .agg parts => uptoBulkAll parts + 1
  | .iface _ d => uptoBulk d + 1
  | .map entries => uptoBulkEntries entries + 1
  | .held _ => 1
def uptoBulkAll {H : Type} : List (DataW H) → Nat
  | [] => 0
  | d :: r => uptoBulk d + uptoBulkAll r
def uptoBulkEntries {H : Type} : List (Lit × DataW H) → Nat
  | [] => 0
  | x :: r => uptoBulkEntry x + uptoBulkEntries r
def uptoBulkEntry {H : Type} : Lit × DataW H → Nat
  | (.string bytes, d) => bytes.length + uptoBulk d + 1
  | (_, d) => uptoBulk d + 1
 end
def uptoSmall : (H : Type) → List (DataW H) → Bool := fun _ ds => decide (uptoBulkAll ds ≤ 1048576)
def OpenSpec.upto (s : _root_.Go.ChangeSpec) : _root_.Go.OpenSpec := { _root_.Go.OpenSpec.ofChange s with cond := some uptoSmall }

/-- 'saucierlaw19.StageBack', WHERE WHAT IT READS IS OF BULK AT MOST 1048576: true; the input reads as it did. -/
def stageBackUptoRow : OpenClaim := { program := "ythjpgccpnakfdaa", sum := "cb72c0e9ffa5ea76a2023be978203b168aa289263abd86a8aa457461e52f5b9d", func := "saucier/saucierlaw19.StageBack", spec := "stageBack", unfollowed := true, recurses := true, apart := false, narrowed := true }
def StageBackUptoSaid : Prop := stageBackUptoRow.holds Try.pinned (OpenSpec.upto stageBackSpec)

/-- 'saucierlaw19.StageOne', WHERE WHAT IT READS IS OF BULK AT MOST 1048576: true; the input reads as it did. -/
def stageOneUptoRow : OpenClaim := { program := "ythjpgccpnakfdaa", sum := "cb72c0e9ffa5ea76a2023be978203b168aa289263abd86a8aa457461e52f5b9d", func := "saucier/saucierlaw19.StageOne", spec := "stageOne", unfollowed := true, recurses := true, apart := false, narrowed := true }
def StageOneUptoSaid : Prop := stageOneUptoRow.holds Try.pinned (OpenSpec.upto stageOneSpec)

/-- 'saucierlaw17.BankDiff', WHERE WHAT IT READS IS OF BULK AT MOST 1048576: true; the input reads as it did. -/
def bankDiffUptoRow : OpenClaim := { program := "ythjpgccpnakfdaa", sum := "cb72c0e9ffa5ea76a2023be978203b168aa289263abd86a8aa457461e52f5b9d", func := "saucier/saucierlaw17.BankDiff", spec := "bankDiff", unfollowed := true, recurses := true, apart := false, narrowed := true }
def BankDiffUptoSaid : Prop := bankDiffUptoRow.holds Try.pinned (OpenSpec.upto bankDiffSpec)

/-- 'saucierlaw17.BankOver', WHERE WHAT IT READS IS OF BULK AT MOST 1048576: true; the input reads as it did. -/
def bankOverUptoRow : OpenClaim := { program := "ythjpgccpnakfdaa", sum := "cb72c0e9ffa5ea76a2023be978203b168aa289263abd86a8aa457461e52f5b9d", func := "saucier/saucierlaw17.BankOver", spec := "bankOver", unfollowed := true, recurses := true, apart := false, narrowed := true }
def BankOverUptoSaid : Prop := bankOverUptoRow.holds Try.pinned (OpenSpec.upto bankOverSpec)

/-- 'saucierlaw17.BankApart', WHERE WHAT IT READS IS OF BULK AT MOST 1048576: true; the input reads as it did. -/
def bankApartUptoRow : OpenClaim := { program := "ythjpgccpnakfdaa", sum := "cb72c0e9ffa5ea76a2023be978203b168aa289263abd86a8aa457461e52f5b9d", func := "saucier/saucierlaw17.BankApart", spec := "bankApart", unfollowed := true, recurses := true, apart := false, narrowed := true }
def BankApartUptoSaid : Prop := bankApartUptoRow.holds Try.pinned (OpenSpec.upto bankApartSpec)

/-- 'saucierlaw19.StageRefuses', WHERE WHAT IT READS IS OF BULK AT MOST 1048576: true; the input reads as it did. -/
def stageRefusesUptoRow : OpenClaim := { program := "ythjpgccpnakfdaa", sum := "cb72c0e9ffa5ea76a2023be978203b168aa289263abd86a8aa457461e52f5b9d", func := "saucier/saucierlaw19.StageRefuses", spec := "stageRefuses", apart := false, narrowed := true }
def StageRefusesUptoSaid : Prop := stageRefusesUptoRow.holds Try.pinned (OpenSpec.upto stageRefusesSpec)

/-- 'saucierlaw17.BankTells', WHERE WHAT IT READS IS OF BULK AT MOST 1048576: true; the input reads as it did. -/
def bankTellsUptoRow : OpenClaim := { program := "ythjpgccpnakfdaa", sum := "cb72c0e9ffa5ea76a2023be978203b168aa289263abd86a8aa457461e52f5b9d", func := "saucier/saucierlaw17.BankTells", spec := "bankTells", unfollowed := true, recurses := true, apart := false, narrowed := true }
def BankTellsUptoSaid : Prop := bankTellsUptoRow.holds Try.pinned (OpenSpec.upto bankTellsSpec)

/-- 'saucierlaw17.BankRefuses', WHERE WHAT IT READS IS OF BULK AT MOST 1048576: true; the input reads as it did. -/
def bankRefusesUptoRow : OpenClaim := { program := "ythjpgccpnakfdaa", sum := "cb72c0e9ffa5ea76a2023be978203b168aa289263abd86a8aa457461e52f5b9d", func := "saucier/saucierlaw17.BankRefuses", spec := "bankRefuses", unfollowed := true, recurses := true, apart := false, narrowed := true }
def BankRefusesUptoSaid : Prop := bankRefusesUptoRow.holds Try.pinned (OpenSpec.upto bankRefusesSpec)

/-- 'saucierlaw19.StagePuts', WHERE WHAT IT READS IS OF BULK AT MOST 1048576: true; the input reads as it did. -/
def stagePutsUptoRow : OpenClaim := { program := "ythjpgccpnakfdaa", sum := "cb72c0e9ffa5ea76a2023be978203b168aa289263abd86a8aa457461e52f5b9d", func := "saucier/saucierlaw19.StagePuts", spec := "stagePuts", unfollowed := true, recurses := true, apart := false, narrowed := true }
def StagePutsUptoSaid : Prop := stagePutsUptoRow.holds Try.pinned (OpenSpec.upto stagePutsSpec)

/-- 'saucierlaw19.StageWhole', WHERE WHAT IT READS IS OF BULK AT MOST 1048576: true; the input reads as it did. -/
def stageWholeUptoRow : OpenClaim := { program := "ythjpgccpnakfdaa", sum := "cb72c0e9ffa5ea76a2023be978203b168aa289263abd86a8aa457461e52f5b9d", func := "saucier/saucierlaw19.StageWhole", spec := "stageWhole", unfollowed := true, recurses := true, apart := false, narrowed := true }
def StageWholeUptoSaid : Prop := stageWholeUptoRow.holds Try.pinned (OpenSpec.upto stageWholeSpec)

end Rows
end Go.Proofs.Ythjpgccpnakfdaa
