/-
  No cell of these rows narrows 'for every input' (looked for: loops, veiled, ifaces, maps, wideKeys, modest, calm, conditions, laid).
  DERIVED. THE GIVEN ROWS OF THIS SEAT. 3 by the template 'for every input the law returns true; each argument reads behind the call as it read before'; 0 by the template 'total and deterministic' (their statements: YtjenaenakopicaaGreatTotals.lean).
  GIVEN WITH THE SEED: the statements are not yours to turn. If you find one false, say at which input.
  Laid BY PROGRAM, IN A SANDBOX (cutbox-rows.mjs): the forced cells as the released guide's own fill.sh prints them over the translation 99b673275a81b692… (all of the seat's roots in one cut). By AI agents, Wed Nov 11 2026. No macro, syntax, notation, axiom, sorry.
-/
import Derived.Test.YtjenaenakopicaaGreatChecked
import GoSem.Claim
import GoSem.ClaimJoined
import GoSem.ClaimMapViews
import Derived.JoinedTies
import Derived.KernelRfl
namespace Go.Proofs.YtjenaenakopicaaGreat
/- THE CELL 'sum', in the pinned program and in every row, IS THE sha256 OF THE DUMP (.gsa) THAT YtjenaenakopicaaGreatProg.lean LOADS. Nothing in Lean hashes anything: it is a label: what it is worth is what the hold of that sum in a sandbox is worth. -/
noncomputable def Tryz.pinned : Pinned := { name := "ytjenaenakopicaagreat", sum := "99b673275a81b69287656cb013937b3fa3df4bcc2100135438189f7e07c9ac1c", checked := Tryz.checked }
namespace Rows
def none {H : Type} : Left H := { results := [], args := [] }

/-- 'intarsialaw03.IrEnds': WHATEVER THE INPUT: true; the input reads as it did. -/
def irEndsSpec : ChangeSpec := { name := "irEnds", fn := fun _ => fun
  | [] => { results := [.lit (.bool true)], args := [] }
  | _ => none }
def irEndsRow : OpenClaim := { program := "ytjenaenakopicaagreat", sum := "99b673275a81b69287656cb013937b3fa3df4bcc2100135438189f7e07c9ac1c", func := "intarsia/intarsialaw03.IrEnds", spec := "irEnds", unfollowed := true, recurses := true, apart := false }
def IrEndsSaid : Prop := irEndsRow.holds Tryz.pinned (OpenSpec.ofChange irEndsSpec)

/-- ITS FALSE NEIGHBOUR: 'it returns false'. Refute it at one input. -/
def irEndsWrong : ChangeSpec := { name := "irEnds", fn := fun _ => fun
  | [] => { results := [.lit (.bool false)], args := [] }
  | _ => none }
def IrEndsWrongFalsely : Prop := irEndsRow.holds Tryz.pinned (OpenSpec.ofChange irEndsWrong)

/-- 'intarsialaw08.RunDoes': WHATEVER THE INPUT: true; the input reads as it did. -/
def runDoesSpec : ChangeSpec := { name := "runDoes", fn := fun _ => fun
  | [d1, d2, d3, d4, d5] => { results := [.lit (.bool true)], args := [d1, d2, d3, d4, d5] }
  | _ => none }
def runDoesRow : OpenClaim := { program := "ytjenaenakopicaagreat", sum := "99b673275a81b69287656cb013937b3fa3df4bcc2100135438189f7e07c9ac1c", func := "intarsia/intarsialaw08.RunDoes", spec := "runDoes", unfollowed := true, recurses := true, apart := false }
def RunDoesSaid : Prop := runDoesRow.holds Tryz.pinned (OpenSpec.ofChange runDoesSpec)

/-- ITS FALSE NEIGHBOUR: 'it returns false'. Refute it at one input. -/
def runDoesWrong : ChangeSpec := { name := "runDoes", fn := fun _ => fun
  | [d1, d2, d3, d4, d5] => { results := [.lit (.bool false)], args := [d1, d2, d3, d4, d5] }
  | _ => none }
def RunDoesWrongFalsely : Prop := runDoesRow.holds Tryz.pinned (OpenSpec.ofChange runDoesWrong)

/-- 'intarsialaw08.RunEnds': WHATEVER THE INPUT: true; the input reads as it did. -/
def runEndsSpec : ChangeSpec := { name := "runEnds", fn := fun _ => fun
  | [] => { results := [.lit (.bool true)], args := [] }
  | _ => none }
def runEndsRow : OpenClaim := { program := "ytjenaenakopicaagreat", sum := "99b673275a81b69287656cb013937b3fa3df4bcc2100135438189f7e07c9ac1c", func := "intarsia/intarsialaw08.RunEnds", spec := "runEnds", unfollowed := true, recurses := true, apart := false }
def RunEndsSaid : Prop := runEndsRow.holds Tryz.pinned (OpenSpec.ofChange runEndsSpec)

/-- ITS FALSE NEIGHBOUR: 'it returns false'. Refute it at one input. -/
def runEndsWrong : ChangeSpec := { name := "runEnds", fn := fun _ => fun
  | [] => { results := [.lit (.bool false)], args := [] }
  | _ => none }
def RunEndsWrongFalsely : Prop := runEndsRow.holds Tryz.pinned (OpenSpec.ofChange runEndsWrong)

/- THE SECOND FORM. 'bulk': how many values and letters a reading holds, each counted each time it is reached (what is shared counts as often as it is met; a slice's spare places count too). A statement '..UptoSaid' is the law's where the arguments, and the package variables that the reading takes, are together of bulk at most 1048576: NARROWER than '..Said'. Prove '..Said' where nothing that the law and all that it calls make is longer than what came in: it says more and counts as full. Else prove '..UptoSaid'. A law counts once. -/
mutual
def uptoBulk {H : Type} : DataW H → Nat
  | .lit (.string bytes) => bytes.length + 1
  | .lit _ => 1
  | .nil => 1
  | .ptr d => uptoBulk d + 1
  | .slice elems spare => uptoBulkAll elems + uptoBulkAll spare + 1
  | .agg parts => uptoBulkAll parts + 1
  | .iface _ d => uptoBulk d + 1
  | .map entries => uptoBulkEntries entries + 1
  | .held _ => 1
def uptoBulkAll {H : Type} : List (DataW H) → Nat
  | [] => 0
  | d :: r => uptoBulk d + uptoBulkAll r
def uptoBulkEntries {H : Type} : List (Lit × DataW H) → Nat
  | [] => 0
  | x :: r => uptoBulkEntry x + uptoBulkEntries r
def uptoBulkEntry {H : Type} : Lit × DataW H → Nat
  | (.string bytes, d) => bytes.length + uptoBulk d + 1
  | (_, d) => uptoBulk d + 1
 end
def uptoSmall : (H : Type) → List (DataW H) → Bool := fun _ ds => decide (uptoBulkAll ds ≤ 1048576)
def OpenSpec.upto (s : _root_.Go.ChangeSpec) : _root_.Go.OpenSpec := { _root_.Go.OpenSpec.ofChange s with cond := some uptoSmall }

/-- 'intarsialaw03.IrEnds', WHERE WHAT IT READS IS OF BULK AT MOST 1048576: true; the input reads as it did. -/
def irEndsUptoRow : OpenClaim := { program := "ytjenaenakopicaagreat", sum := "99b673275a81b69287656cb013937b3fa3df4bcc2100135438189f7e07c9ac1c", func := "intarsia/intarsialaw03.IrEnds", spec := "irEnds", unfollowed := true, recurses := true, apart := false, narrowed := true }
def IrEndsUptoSaid : Prop := irEndsUptoRow.holds Tryz.pinned (OpenSpec.upto irEndsSpec)

/-- 'intarsialaw08.RunDoes', WHERE WHAT IT READS IS OF BULK AT MOST 1048576: true; the input reads as it did. -/
def runDoesUptoRow : OpenClaim := { program := "ytjenaenakopicaagreat", sum := "99b673275a81b69287656cb013937b3fa3df4bcc2100135438189f7e07c9ac1c", func := "intarsia/intarsialaw08.RunDoes", spec := "runDoes", unfollowed := true, recurses := true, apart := false, narrowed := true }
def RunDoesUptoSaid : Prop := runDoesUptoRow.holds Tryz.pinned (OpenSpec.upto runDoesSpec)

/-- 'intarsialaw08.RunEnds', WHERE WHAT IT READS IS OF BULK AT MOST 1048576: true; the input reads as it did. -/
def runEndsUptoRow : OpenClaim := { program := "ytjenaenakopicaagreat", sum := "99b673275a81b69287656cb013937b3fa3df4bcc2100135438189f7e07c9ac1c", func := "intarsia/intarsialaw08.RunEnds", spec := "runEnds", unfollowed := true, recurses := true, apart := false, narrowed := true }
def RunEndsUptoSaid : Prop := runEndsUptoRow.holds Tryz.pinned (OpenSpec.upto runEndsSpec)

end Rows
end Go.Proofs.YtjenaenakopicaaGreat
