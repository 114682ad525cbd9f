/-
  No cell of these rows narrows 'for every input' (looked for: loops, veiled, ifaces, maps, wideKeys, modest, calm, conditions, laid).
  DERIVED. THE GIVEN ROWS OF THIS SEAT. 6 by the template 'for every input the law returns true; each argument reads behind the call as it read before'; 0 by the template 'total and deterministic' (their statements: YtiaibplflmjohaaTotals.lean).
  GIVEN WITH THE SEED: the statements are not yours to turn. If you find one false, say at which input.
  Laid BY PROGRAM, IN A SANDBOX (cutbox-rows.mjs): the forced cells as the released guide's own fill.sh prints them over the translation 6951725727122aea… (all of the seat's roots in one cut). By AI agents, Wed Nov 11 2026. No macro, syntax, notation, axiom, sorry.
-/
import Derived.Test.YtiaibplflmjohaaChecked
import GoSem.Claim
import GoSem.ClaimJoined
import GoSem.ClaimMapViews
import Derived.JoinedTies
import Derived.KernelRfl
namespace Go.Proofs.Ytiaibplflmjohaa
/- THE CELL 'sum', in the pinned program and in every row, IS THE sha256 OF THE DUMP (.gsa) THAT YtiaibplflmjohaaProg.lean LOADS. Nothing in Lean hashes anything: it is a label: what it is worth is what the hold of that sum in a sandbox is worth. -/
noncomputable def Try.pinned : Pinned := { name := "ytiaibplflmjohaa", sum := "6951725727122aea4fe2696731c0a5665b44d552bbbe15ad426c06185c4cea91", checked := Try.checked }
namespace Rows
def none {H : Type} : Left H := { results := [], args := [] }

/-- 'saucierlaw02.AskTells': WHATEVER THE INPUT: true; the input reads as it did. -/
def askTellsSpec : ChangeSpec := { name := "askTells", fn := fun _ => fun
  | [d1, d2, d3] => { results := [.lit (.bool true)], args := [d1, d2, d3] }
  | _ => none }
def askTellsRow : OpenClaim := { program := "ytiaibplflmjohaa", sum := "6951725727122aea4fe2696731c0a5665b44d552bbbe15ad426c06185c4cea91", func := "saucier/saucierlaw02.AskTells", spec := "askTells", apart := false }
def AskTellsSaid : Prop := askTellsRow.holds Try.pinned (OpenSpec.ofChange askTellsSpec)

/-- ITS FALSE NEIGHBOUR: 'it returns false'. Refute it at one input. -/
def askTellsWrong : ChangeSpec := { name := "askTells", fn := fun _ => fun
  | [d1, d2, d3] => { results := [.lit (.bool false)], args := [d1, d2, d3] }
  | _ => none }
def AskTellsWrongFalsely : Prop := askTellsRow.holds Try.pinned (OpenSpec.ofChange askTellsWrong)

/-- 'saucierlaw02.AskBack': WHATEVER THE INPUT: true; the input reads as it did. -/
def askBackSpec : ChangeSpec := { name := "askBack", fn := fun _ => fun
  | [d1, d2] => { results := [.lit (.bool true)], args := [d1, d2] }
  | _ => none }
def askBackRow : OpenClaim := { program := "ytiaibplflmjohaa", sum := "6951725727122aea4fe2696731c0a5665b44d552bbbe15ad426c06185c4cea91", func := "saucier/saucierlaw02.AskBack", spec := "askBack", apart := false }
def AskBackSaid : Prop := askBackRow.holds Try.pinned (OpenSpec.ofChange askBackSpec)

/-- ITS FALSE NEIGHBOUR: 'it returns false'. Refute it at one input. -/
def askBackWrong : ChangeSpec := { name := "askBack", fn := fun _ => fun
  | [d1, d2] => { results := [.lit (.bool false)], args := [d1, d2] }
  | _ => none }
def AskBackWrongFalsely : Prop := askBackRow.holds Try.pinned (OpenSpec.ofChange askBackWrong)

/-- 'saucierlaw02.AskOne': WHATEVER THE INPUT: true; the input reads as it did. -/
def askOneSpec : ChangeSpec := { name := "askOne", fn := fun _ => fun
  | [d1, d2, d3] => { results := [.lit (.bool true)], args := [d1, d2, d3] }
  | _ => none }
def askOneRow : OpenClaim := { program := "ytiaibplflmjohaa", sum := "6951725727122aea4fe2696731c0a5665b44d552bbbe15ad426c06185c4cea91", func := "saucier/saucierlaw02.AskOne", spec := "askOne", apart := false }
def AskOneSaid : Prop := askOneRow.holds Try.pinned (OpenSpec.ofChange askOneSpec)

/-- ITS FALSE NEIGHBOUR: 'it returns false'. Refute it at one input. -/
def askOneWrong : ChangeSpec := { name := "askOne", fn := fun _ => fun
  | [d1, d2, d3] => { results := [.lit (.bool false)], args := [d1, d2, d3] }
  | _ => none }
def AskOneWrongFalsely : Prop := askOneRow.holds Try.pinned (OpenSpec.ofChange askOneWrong)

/-- 'saucierlaw02.AskLooks': WHATEVER THE INPUT: true; the input reads as it did. -/
def askLooksSpec : ChangeSpec := { name := "askLooks", fn := fun _ => fun
  | [d] => { results := [.lit (.bool true)], args := [d] }
  | _ => none }
def askLooksRow : OpenClaim := { program := "ytiaibplflmjohaa", sum := "6951725727122aea4fe2696731c0a5665b44d552bbbe15ad426c06185c4cea91", func := "saucier/saucierlaw02.AskLooks", spec := "askLooks", apart := false }
def AskLooksSaid : Prop := askLooksRow.holds Try.pinned (OpenSpec.ofChange askLooksSpec)

/-- ITS FALSE NEIGHBOUR: 'it returns false'. Refute it at one input. -/
def askLooksWrong : ChangeSpec := { name := "askLooks", fn := fun _ => fun
  | [d] => { results := [.lit (.bool false)], args := [d] }
  | _ => none }
def AskLooksWrongFalsely : Prop := askLooksRow.holds Try.pinned (OpenSpec.ofChange askLooksWrong)

/-- 'saucierlaw02.AskBits': WHATEVER THE INPUT: true; the input reads as it did. -/
def askBitsSpec : ChangeSpec := { name := "askBits", fn := fun _ => fun
  | [d1, d2] => { results := [.lit (.bool true)], args := [d1, d2] }
  | _ => none }
def askBitsRow : OpenClaim := { program := "ytiaibplflmjohaa", sum := "6951725727122aea4fe2696731c0a5665b44d552bbbe15ad426c06185c4cea91", func := "saucier/saucierlaw02.AskBits", spec := "askBits", apart := false }
def AskBitsSaid : Prop := askBitsRow.holds Try.pinned (OpenSpec.ofChange askBitsSpec)

/-- ITS FALSE NEIGHBOUR: 'it returns false'. Refute it at one input. -/
def askBitsWrong : ChangeSpec := { name := "askBits", fn := fun _ => fun
  | [d1, d2] => { results := [.lit (.bool false)], args := [d1, d2] }
  | _ => none }
def AskBitsWrongFalsely : Prop := askBitsRow.holds Try.pinned (OpenSpec.ofChange askBitsWrong)

/-- 'saucierlaw02.AskLimits': WHATEVER THE INPUT: true; the input reads as it did. -/
def askLimitsSpec : ChangeSpec := { name := "askLimits", fn := fun _ => fun
  | [d1, d2, d3, d4, d5] => { results := [.lit (.bool true)], args := [d1, d2, d3, d4, d5] }
  | _ => none }
def askLimitsRow : OpenClaim := { program := "ytiaibplflmjohaa", sum := "6951725727122aea4fe2696731c0a5665b44d552bbbe15ad426c06185c4cea91", func := "saucier/saucierlaw02.AskLimits", spec := "askLimits", apart := false }
def AskLimitsSaid : Prop := askLimitsRow.holds Try.pinned (OpenSpec.ofChange askLimitsSpec)

/-- ITS FALSE NEIGHBOUR: 'it returns false'. Refute it at one input. -/
def askLimitsWrong : ChangeSpec := { name := "askLimits", fn := fun _ => fun
  | [d1, d2, d3, d4, d5] => { results := [.lit (.bool false)], args := [d1, d2, d3, d4, d5] }
  | _ => none }
def AskLimitsWrongFalsely : Prop := askLimitsRow.holds Try.pinned (OpenSpec.ofChange askLimitsWrong)

/- THE SECOND FORM. 'bulk': how many values and letters a reading holds, each counted each time it is reached (what is shared counts as often as it is met; a slice's spare places count too). A statement '..UptoSaid' is the law's where the arguments, and the package variables that the reading takes, are together of bulk at most 1048576: NARROWER than '..Said'. Prove '..Said' where nothing that the law and all that it calls make is longer than what came in: it says more and counts as full. Else prove '..UptoSaid'. A law counts once. -/
mutual
def uptoBulk {H : Type} : DataW H → Nat
  | .lit (.string bytes) => bytes.length + 1
  | .lit _ => 1
  | .nil => 1
  | .ptr d => uptoBulk d + 1
  | .slice elems spare => uptoBulkAll elems + uptoBulkAll spare + 1
  | .agg parts => uptoBulkAll parts + 1
  | .iface _ d => uptoBulk d + 1
  | .map entries => uptoBulkEntries entries + 1
  | .held _ => 1
def uptoBulkAll {H : Type} : List (DataW H) → Nat
  | [] => 0
  | d :: r => uptoBulk d + uptoBulkAll r
def uptoBulkEntries {H : Type} : List (Lit × DataW H) → Nat
  | [] => 0
  | x :: r => uptoBulkEntry x + uptoBulkEntries r
def uptoBulkEntry {H : Type} : Lit × DataW H → Nat
  | (.string bytes, d) => bytes.length + uptoBulk d + 1
  | (_, d) => uptoBulk d + 1
 end
def uptoSmall : (H : Type) → List (DataW H) → Bool := fun _ ds => decide (uptoBulkAll ds ≤ 1048576)
def OpenSpec.upto (s : _root_.Go.ChangeSpec) : _root_.Go.OpenSpec := { _root_.Go.OpenSpec.ofChange s with cond := some uptoSmall }

/-- 'saucierlaw02.AskTells', WHERE WHAT IT READS IS OF BULK AT MOST 1048576: true; the input reads as it did. -/
def askTellsUptoRow : OpenClaim := { program := "ytiaibplflmjohaa", sum := "6951725727122aea4fe2696731c0a5665b44d552bbbe15ad426c06185c4cea91", func := "saucier/saucierlaw02.AskTells", spec := "askTells", apart := false, narrowed := true }
def AskTellsUptoSaid : Prop := askTellsUptoRow.holds Try.pinned (OpenSpec.upto askTellsSpec)

/-- 'saucierlaw02.AskBack', WHERE WHAT IT READS IS OF BULK AT MOST 1048576: true; the input reads as it did. -/
def askBackUptoRow : OpenClaim := { program := "ytiaibplflmjohaa", sum := "6951725727122aea4fe2696731c0a5665b44d552bbbe15ad426c06185c4cea91", func := "saucier/saucierlaw02.AskBack", spec := "askBack", apart := false, narrowed := true }
def AskBackUptoSaid : Prop := askBackUptoRow.holds Try.pinned (OpenSpec.upto askBackSpec)

/-- 'saucierlaw02.AskOne', WHERE WHAT IT READS IS OF BULK AT MOST 1048576: true; the input reads as it did. -/
def askOneUptoRow : OpenClaim := { program := "ytiaibplflmjohaa", sum := "6951725727122aea4fe2696731c0a5665b44d552bbbe15ad426c06185c4cea91", func := "saucier/saucierlaw02.AskOne", spec := "askOne", apart := false, narrowed := true }
def AskOneUptoSaid : Prop := askOneUptoRow.holds Try.pinned (OpenSpec.upto askOneSpec)

/-- 'saucierlaw02.AskLooks', WHERE WHAT IT READS IS OF BULK AT MOST 1048576: true; the input reads as it did. -/
def askLooksUptoRow : OpenClaim := { program := "ytiaibplflmjohaa", sum := "6951725727122aea4fe2696731c0a5665b44d552bbbe15ad426c06185c4cea91", func := "saucier/saucierlaw02.AskLooks", spec := "askLooks", apart := false, narrowed := true }
def AskLooksUptoSaid : Prop := askLooksUptoRow.holds Try.pinned (OpenSpec.upto askLooksSpec)

/-- 'saucierlaw02.AskBits', WHERE WHAT IT READS IS OF BULK AT MOST 1048576: true; the input reads as it did. -/
def askBitsUptoRow : OpenClaim := { program := "ytiaibplflmjohaa", sum := "6951725727122aea4fe2696731c0a5665b44d552bbbe15ad426c06185c4cea91", func := "saucier/saucierlaw02.AskBits", spec := "askBits", apart := false, narrowed := true }
def AskBitsUptoSaid : Prop := askBitsUptoRow.holds Try.pinned (OpenSpec.upto askBitsSpec)

/-- 'saucierlaw02.AskLimits', WHERE WHAT IT READS IS OF BULK AT MOST 1048576: true; the input reads as it did. -/
def askLimitsUptoRow : OpenClaim := { program := "ytiaibplflmjohaa", sum := "6951725727122aea4fe2696731c0a5665b44d552bbbe15ad426c06185c4cea91", func := "saucier/saucierlaw02.AskLimits", spec := "askLimits", apart := false, narrowed := true }
def AskLimitsUptoSaid : Prop := askLimitsUptoRow.holds Try.pinned (OpenSpec.upto askLimitsSpec)

end Rows
end Go.Proofs.Ytiaibplflmjohaa
