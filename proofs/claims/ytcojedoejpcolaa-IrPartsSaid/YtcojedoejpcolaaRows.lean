/-
  No cell of these rows narrows 'for every input' (looked for: loops, veiled, ifaces, maps, wideKeys, modest, calm, conditions, laid).
  DERIVED. THE GIVEN ROWS OF THIS SEAT. 9 by the template 'for every input the law returns true; each argument reads behind the call as it read before'; 0 by the template 'total and deterministic' (their statements: YtcojedoejpcolaaTotals.lean).
  GIVEN WITH THE SEED: the statements are not yours to turn. If you find one false, say at which input.
  Laid BY PROGRAM, IN A SANDBOX (cutbox-rows.mjs): the forced cells as the released guide's own fill.sh prints them over the translation 3deabf898abdcafa… (all of the seat's roots in one cut). By AI agents, Wed Nov 11 2026. No macro, syntax, notation, axiom, sorry.
-/
import Derived.Test.YtcojedoejpcolaaChecked
import GoSem.Claim
import GoSem.ClaimJoined
import GoSem.ClaimMapViews
import Derived.JoinedTies
import Derived.KernelRfl
namespace Go.Proofs.Ytcojedoejpcolaa
/- THE CELL 'sum', in the pinned program and in every row, IS THE sha256 OF THE DUMP (.gsa) THAT YtcojedoejpcolaaProg.lean LOADS. Nothing in Lean hashes anything: it is a label: what it is worth is what the hold of that sum in a sandbox is worth. -/
noncomputable def Try.pinned : Pinned := { name := "ytcojedoejpcolaa", sum := "3deabf898abdcafab9e56b1bf185ee90bc38096753462c375ed49322853357ec", checked := Try.checked }
namespace Rows
def none {H : Type} : Left H := { results := [], args := [] }

/-- 'intarsialaw03.IrParts': WHATEVER THE INPUT: true; the input reads as it did. -/
def irPartsSpec : ChangeSpec := { name := "irParts", fn := fun _ => fun
  | [d1, d2] => { results := [.lit (.bool true)], args := [d1, d2] }
  | _ => none }
def irPartsRow : OpenClaim := { program := "ytcojedoejpcolaa", sum := "3deabf898abdcafab9e56b1bf185ee90bc38096753462c375ed49322853357ec", func := "intarsia/intarsialaw03.IrParts", spec := "irParts", unfollowed := true, recurses := true, plainKeys := false, apart := false }
def IrPartsSaid : Prop := irPartsRow.holds Try.pinned (OpenSpec.ofChange irPartsSpec)

/-- ITS FALSE NEIGHBOUR: 'it returns false'. Refute it at one input. -/
def irPartsWrong : ChangeSpec := { name := "irParts", fn := fun _ => fun
  | [d1, d2] => { results := [.lit (.bool false)], args := [d1, d2] }
  | _ => none }
def IrPartsWrongFalsely : Prop := irPartsRow.holds Try.pinned (OpenSpec.ofChange irPartsWrong)

/-- 'intarsialaw03.IrSafe': WHATEVER THE INPUT: true; the input reads as it did. -/
def irSafeSpec : ChangeSpec := { name := "irSafe", fn := fun _ => fun
  | [d1, d2] => { results := [.lit (.bool true)], args := [d1, d2] }
  | _ => none }
def irSafeRow : OpenClaim := { program := "ytcojedoejpcolaa", sum := "3deabf898abdcafab9e56b1bf185ee90bc38096753462c375ed49322853357ec", func := "intarsia/intarsialaw03.IrSafe", spec := "irSafe", unfollowed := true, recurses := true, plainKeys := false, apart := false }
def IrSafeSaid : Prop := irSafeRow.holds Try.pinned (OpenSpec.ofChange irSafeSpec)

/-- ITS FALSE NEIGHBOUR: 'it returns false'. Refute it at one input. -/
def irSafeWrong : ChangeSpec := { name := "irSafe", fn := fun _ => fun
  | [d1, d2] => { results := [.lit (.bool false)], args := [d1, d2] }
  | _ => none }
def IrSafeWrongFalsely : Prop := irSafeRow.holds Try.pinned (OpenSpec.ofChange irSafeWrong)

/-- 'intarsialaw03.IrTells': WHATEVER THE INPUT: true; the input reads as it did. -/
def irTellsSpec : ChangeSpec := { name := "irTells", fn := fun _ => fun
  | [d] => { results := [.lit (.bool true)], args := [d] }
  | _ => none }
def irTellsRow : OpenClaim := { program := "ytcojedoejpcolaa", sum := "3deabf898abdcafab9e56b1bf185ee90bc38096753462c375ed49322853357ec", func := "intarsia/intarsialaw03.IrTells", spec := "irTells", unfollowed := true, recurses := true, plainKeys := false, apart := false }
def IrTellsSaid : Prop := irTellsRow.holds Try.pinned (OpenSpec.ofChange irTellsSpec)

/-- ITS FALSE NEIGHBOUR: 'it returns false'. Refute it at one input. -/
def irTellsWrong : ChangeSpec := { name := "irTells", fn := fun _ => fun
  | [d] => { results := [.lit (.bool false)], args := [d] }
  | _ => none }
def IrTellsWrongFalsely : Prop := irTellsRow.holds Try.pinned (OpenSpec.ofChange irTellsWrong)

/-- 'intarsialaw03.IrRenames': WHATEVER THE INPUT: true; the input reads as it did. -/
def irRenamesSpec : ChangeSpec := { name := "irRenames", fn := fun _ => fun
  | [d1, d2] => { results := [.lit (.bool true)], args := [d1, d2] }
  | _ => none }
def irRenamesRow : OpenClaim := { program := "ytcojedoejpcolaa", sum := "3deabf898abdcafab9e56b1bf185ee90bc38096753462c375ed49322853357ec", func := "intarsia/intarsialaw03.IrRenames", spec := "irRenames", unfollowed := true, recurses := true, plainKeys := false, apart := false }
def IrRenamesSaid : Prop := irRenamesRow.holds Try.pinned (OpenSpec.ofChange irRenamesSpec)

/-- ITS FALSE NEIGHBOUR: 'it returns false'. Refute it at one input. -/
def irRenamesWrong : ChangeSpec := { name := "irRenames", fn := fun _ => fun
  | [d1, d2] => { results := [.lit (.bool false)], args := [d1, d2] }
  | _ => none }
def IrRenamesWrongFalsely : Prop := irRenamesRow.holds Try.pinned (OpenSpec.ofChange irRenamesWrong)

/-- 'intarsialaw08.RunCalcs': WHATEVER THE INPUT: true; the input reads as it did. -/
def runCalcsSpec : ChangeSpec := { name := "runCalcs", fn := fun _ => fun
  | [d1, d2, d3] => { results := [.lit (.bool true)], args := [d1, d2, d3] }
  | _ => none }
def runCalcsRow : OpenClaim := { program := "ytcojedoejpcolaa", sum := "3deabf898abdcafab9e56b1bf185ee90bc38096753462c375ed49322853357ec", func := "intarsia/intarsialaw08.RunCalcs", spec := "runCalcs", unfollowed := true, recurses := true, plainKeys := false, apart := false }
def RunCalcsSaid : Prop := runCalcsRow.holds Try.pinned (OpenSpec.ofChange runCalcsSpec)

/-- ITS FALSE NEIGHBOUR: 'it returns false'. Refute it at one input. -/
def runCalcsWrong : ChangeSpec := { name := "runCalcs", fn := fun _ => fun
  | [d1, d2, d3] => { results := [.lit (.bool false)], args := [d1, d2, d3] }
  | _ => none }
def RunCalcsWrongFalsely : Prop := runCalcsRow.holds Try.pinned (OpenSpec.ofChange runCalcsWrong)

/-- 'intarsialaw08.RunAgain': WHATEVER THE INPUT: true; the input reads as it did. -/
def runAgainSpec : ChangeSpec := { name := "runAgain", fn := fun _ => fun
  | [d1, d2, d3, d4, d5, d6] => { results := [.lit (.bool true)], args := [d1, d2, d3, d4, d5, d6] }
  | _ => none }
def runAgainRow : OpenClaim := { program := "ytcojedoejpcolaa", sum := "3deabf898abdcafab9e56b1bf185ee90bc38096753462c375ed49322853357ec", func := "intarsia/intarsialaw08.RunAgain", spec := "runAgain", unfollowed := true, recurses := true, plainKeys := false, apart := false }
def RunAgainSaid : Prop := runAgainRow.holds Try.pinned (OpenSpec.ofChange runAgainSpec)

/-- ITS FALSE NEIGHBOUR: 'it returns false'. Refute it at one input. -/
def runAgainWrong : ChangeSpec := { name := "runAgain", fn := fun _ => fun
  | [d1, d2, d3, d4, d5, d6] => { results := [.lit (.bool false)], args := [d1, d2, d3, d4, d5, d6] }
  | _ => none }
def RunAgainWrongFalsely : Prop := runAgainRow.holds Try.pinned (OpenSpec.ofChange runAgainWrong)

/-- 'intarsialaw08.RunSafe': WHATEVER THE INPUT: true; the input reads as it did. -/
def runSafeSpec : ChangeSpec := { name := "runSafe", fn := fun _ => fun
  | [d1, d2, d3, d4, d5] => { results := [.lit (.bool true)], args := [d1, d2, d3, d4, d5] }
  | _ => none }
def runSafeRow : OpenClaim := { program := "ytcojedoejpcolaa", sum := "3deabf898abdcafab9e56b1bf185ee90bc38096753462c375ed49322853357ec", func := "intarsia/intarsialaw08.RunSafe", spec := "runSafe", unfollowed := true, recurses := true, plainKeys := false, apart := false }
def RunSafeSaid : Prop := runSafeRow.holds Try.pinned (OpenSpec.ofChange runSafeSpec)

/-- ITS FALSE NEIGHBOUR: 'it returns false'. Refute it at one input. -/
def runSafeWrong : ChangeSpec := { name := "runSafe", fn := fun _ => fun
  | [d1, d2, d3, d4, d5] => { results := [.lit (.bool false)], args := [d1, d2, d3, d4, d5] }
  | _ => none }
def RunSafeWrongFalsely : Prop := runSafeRow.holds Try.pinned (OpenSpec.ofChange runSafeWrong)

/-- 'intarsialaw13.SplitAgain': WHATEVER THE INPUT: true; the input reads as it did. -/
def splitAgainSpec : ChangeSpec := { name := "splitAgain", fn := fun _ => fun
  | [d] => { results := [.lit (.bool true)], args := [d] }
  | _ => none }
def splitAgainRow : OpenClaim := { program := "ytcojedoejpcolaa", sum := "3deabf898abdcafab9e56b1bf185ee90bc38096753462c375ed49322853357ec", func := "intarsia/intarsialaw13.SplitAgain", spec := "splitAgain", unfollowed := true, recurses := true, plainKeys := false, apart := false }
def SplitAgainSaid : Prop := splitAgainRow.holds Try.pinned (OpenSpec.ofChange splitAgainSpec)

/-- ITS FALSE NEIGHBOUR: 'it returns false'. Refute it at one input. -/
def splitAgainWrong : ChangeSpec := { name := "splitAgain", fn := fun _ => fun
  | [d] => { results := [.lit (.bool false)], args := [d] }
  | _ => none }
def SplitAgainWrongFalsely : Prop := splitAgainRow.holds Try.pinned (OpenSpec.ofChange splitAgainWrong)

/-- 'intarsialaw13.SplitWays': WHATEVER THE INPUT: true; the input reads as it did. -/
def splitWaysSpec : ChangeSpec := { name := "splitWays", fn := fun _ => fun
  | [d1, d2] => { results := [.lit (.bool true)], args := [d1, d2] }
  | _ => none }
def splitWaysRow : OpenClaim := { program := "ytcojedoejpcolaa", sum := "3deabf898abdcafab9e56b1bf185ee90bc38096753462c375ed49322853357ec", func := "intarsia/intarsialaw13.SplitWays", spec := "splitWays", unfollowed := true, recurses := true, plainKeys := false, apart := false }
def SplitWaysSaid : Prop := splitWaysRow.holds Try.pinned (OpenSpec.ofChange splitWaysSpec)

/-- ITS FALSE NEIGHBOUR: 'it returns false'. Refute it at one input. -/
def splitWaysWrong : ChangeSpec := { name := "splitWays", fn := fun _ => fun
  | [d1, d2] => { results := [.lit (.bool false)], args := [d1, d2] }
  | _ => none }
def SplitWaysWrongFalsely : Prop := splitWaysRow.holds Try.pinned (OpenSpec.ofChange splitWaysWrong)

/- THE SECOND FORM. 'bulk': how many values and letters a reading holds, each counted each time it is reached (what is shared counts as often as it is met; a slice's spare places count too). A statement '..UptoSaid' is the law's where the arguments, and the package variables that the reading takes, are together of bulk at most 1048576: NARROWER than '..Said'. Prove '..Said' where nothing that the law and all that it calls make is longer than what came in: it says more and counts as full. Else prove '..UptoSaid'. A law counts once. -/
mutual
def uptoBulk {H : Type} : DataW H → Nat
  | .lit (.string bytes) => bytes.length + 1
  | .lit _ => 1
  | .nil => 1
  | .ptr d => uptoBulk d + 1
  | .slice elems spare => uptoBulkAll elems + uptoBulkAll spare + 1
  | .agg parts => uptoBulkAll parts + 1
  | .iface _ d => uptoBulk d + 1
  | .map entries => uptoBulkEntries entries + 1
  | .held _ => 1
def uptoBulkAll {H : Type} : List (DataW H) → Nat
  | [] => 0
  | d :: r => uptoBulk d + uptoBulkAll r
def uptoBulkEntries {H : Type} : List (Lit × DataW H) → Nat
  | [] => 0
  | x :: r => uptoBulkEntry x + uptoBulkEntries r
def uptoBulkEntry {H : Type} : Lit × DataW H → Nat
  | (.string bytes, d) => bytes.length + uptoBulk d + 1
  | (_, d) => uptoBulk d + 1
 end
def uptoSmall : (H : Type) → List (DataW H) → Bool := fun _ ds => decide (uptoBulkAll ds ≤ 1048576)
def OpenSpec.upto (s : _root_.Go.ChangeSpec) : _root_.Go.OpenSpec := { _root_.Go.OpenSpec.ofChange s with cond := some uptoSmall }

/-- 'intarsialaw03.IrParts', WHERE WHAT IT READS IS OF BULK AT MOST 1048576: true; the input reads as it did. -/
def irPartsUptoRow : OpenClaim := { program := "ytcojedoejpcolaa", sum := "3deabf898abdcafab9e56b1bf185ee90bc38096753462c375ed49322853357ec", func := "intarsia/intarsialaw03.IrParts", spec := "irParts", unfollowed := true, recurses := true, plainKeys := false, apart := false, narrowed := true }
def IrPartsUptoSaid : Prop := irPartsUptoRow.holds Try.pinned (OpenSpec.upto irPartsSpec)

/-- 'intarsialaw03.IrSafe', WHERE WHAT IT READS IS OF BULK AT MOST 1048576: true; the input reads as it did. -/
def irSafeUptoRow : OpenClaim := { program := "ytcojedoejpcolaa", sum := "3deabf898abdcafab9e56b1bf185ee90bc38096753462c375ed49322853357ec", func := "intarsia/intarsialaw03.IrSafe", spec := "irSafe", unfollowed := true, recurses := true, plainKeys := false, apart := false, narrowed := true }
def IrSafeUptoSaid : Prop := irSafeUptoRow.holds Try.pinned (OpenSpec.upto irSafeSpec)

/-- 'intarsialaw03.IrTells', WHERE WHAT IT READS IS OF BULK AT MOST 1048576: true; the input reads as it did. -/
def irTellsUptoRow : OpenClaim := { program := "ytcojedoejpcolaa", sum := "3deabf898abdcafab9e56b1bf185ee90bc38096753462c375ed49322853357ec", func := "intarsia/intarsialaw03.IrTells", spec := "irTells", unfollowed := true, recurses := true, plainKeys := false, apart := false, narrowed := true }
def IrTellsUptoSaid : Prop := irTellsUptoRow.holds Try.pinned (OpenSpec.upto irTellsSpec)

/-- 'intarsialaw03.IrRenames', WHERE WHAT IT READS IS OF BULK AT MOST 1048576: true; the input reads as it did. -/
def irRenamesUptoRow : OpenClaim := { program := "ytcojedoejpcolaa", sum := "3deabf898abdcafab9e56b1bf185ee90bc38096753462c375ed49322853357ec", func := "intarsia/intarsialaw03.IrRenames", spec := "irRenames", unfollowed := true, recurses := true, plainKeys := false, apart := false, narrowed := true }
def IrRenamesUptoSaid : Prop := irRenamesUptoRow.holds Try.pinned (OpenSpec.upto irRenamesSpec)

/-- 'intarsialaw08.RunCalcs', WHERE WHAT IT READS IS OF BULK AT MOST 1048576: true; the input reads as it did. -/
def runCalcsUptoRow : OpenClaim := { program := "ytcojedoejpcolaa", sum := "3deabf898abdcafab9e56b1bf185ee90bc38096753462c375ed49322853357ec", func := "intarsia/intarsialaw08.RunCalcs", spec := "runCalcs", unfollowed := true, recurses := true, plainKeys := false, apart := false, narrowed := true }
def RunCalcsUptoSaid : Prop := runCalcsUptoRow.holds Try.pinned (OpenSpec.upto runCalcsSpec)

/-- 'intarsialaw08.RunAgain', WHERE WHAT IT READS IS OF BULK AT MOST 1048576: true; the input reads as it did. -/
def runAgainUptoRow : OpenClaim := { program := "ytcojedoejpcolaa", sum := "3deabf898abdcafab9e56b1bf185ee90bc38096753462c375ed49322853357ec", func := "intarsia/intarsialaw08.RunAgain", spec := "runAgain", unfollowed := true, recurses := true, plainKeys := false, apart := false, narrowed := true }
def RunAgainUptoSaid : Prop := runAgainUptoRow.holds Try.pinned (OpenSpec.upto runAgainSpec)

/-- 'intarsialaw08.RunSafe', WHERE WHAT IT READS IS OF BULK AT MOST 1048576: true; the input reads as it did. -/
def runSafeUptoRow : OpenClaim := { program := "ytcojedoejpcolaa", sum := "3deabf898abdcafab9e56b1bf185ee90bc38096753462c375ed49322853357ec", func := "intarsia/intarsialaw08.RunSafe", spec := "runSafe", unfollowed := true, recurses := true, plainKeys := false, apart := false, narrowed := true }
def RunSafeUptoSaid : Prop := runSafeUptoRow.holds Try.pinned (OpenSpec.upto runSafeSpec)

/-- 'intarsialaw13.SplitAgain', WHERE WHAT IT READS IS OF BULK AT MOST 1048576: true; the input reads as it did. -/
def splitAgainUptoRow : OpenClaim := { program := "ytcojedoejpcolaa", sum := "3deabf898abdcafab9e56b1bf185ee90bc38096753462c375ed49322853357ec", func := "intarsia/intarsialaw13.SplitAgain", spec := "splitAgain", unfollowed := true, recurses := true, plainKeys := false, apart := false, narrowed := true }
def SplitAgainUptoSaid : Prop := splitAgainUptoRow.holds Try.pinned (OpenSpec.upto splitAgainSpec)

/-- 'intarsialaw13.SplitWays', WHERE WHAT IT READS IS OF BULK AT MOST 1048576: true; the input reads as it did. -/
def splitWaysUptoRow : OpenClaim := { program := "ytcojedoejpcolaa", sum := "3deabf898abdcafab9e56b1bf185ee90bc38096753462c375ed49322853357ec", func := "intarsia/intarsialaw13.SplitWays", spec := "splitWays", unfollowed := true, recurses := true, plainKeys := false, apart := false, narrowed := true }
def SplitWaysUptoSaid : Prop := splitWaysUptoRow.holds Try.pinned (OpenSpec.upto splitWaysSpec)

end Rows
end Go.Proofs.Ytcojedoejpcolaa
