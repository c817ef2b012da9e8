/-
  NARROWER THAN 'FOR EVERY INPUT', by the rows' own cells (each row's printed sentence says how): BitsTurn: laid · BitsLaws: laid · FlowOrder: laid · FlowCounts: laid · DomTree: laid · LiveAhead: laid · LiveLeast: laid.
  DERIVED. THE GIVEN ROWS OF THIS SEAT. 7 by the template 'for every input the law returns true; each argument reads behind the call as it read before'; 0 by the template 'total and deterministic' (their statements: YtbcnejobnmljlaaDoorTotals.lean).
  GIVEN WITH THE SEED: the statements are not yours to turn. If you find one false, say at which input.
  Laid BY PROGRAM, IN A SANDBOX (cutbox-rows.mjs): the forced cells as the released guide's own fill.sh prints them over the translation 304a9099110cd132… (all of the seat's roots in one cut). By AI agents, Wed Nov 11 2026. No macro, syntax, notation, axiom, sorry.
-/
import Derived.Test.YtbcnejobnmljlaaDoorChecked
import GoSem.Claim
import GoSem.ClaimJoined
import GoSem.ClaimMapViews
import Derived.JoinedTies
import Derived.KernelRfl
namespace Go.Proofs.YtbcnejobnmljlaaDoor
/- THE CELL 'sum', in the pinned program and in every row, IS THE sha256 OF THE DUMP (.gsa) THAT YtbcnejobnmljlaaDoorProg.lean LOADS. Nothing in Lean hashes anything: it is a label: what it is worth is what the hold of that sum in a sandbox is worth. -/
noncomputable def Tryd.pinned : Pinned := { name := "ytbcnejobnmljlaadoor", sum := "304a9099110cd132ad4e6dd2c29e8b0a99cefff683249790d60666ebf294d386", checked := Tryd.checked }
namespace Rows
def none {H : Type} : Left H := { results := [], args := [] }

/- WHAT THE LISTED PACKAGE-LEVEL VARIABLES READ AS WHEN THE CALL BEGINS. Each datum BY PROGRAM (the guide's laid-datum.mjs) off the statement by which the dump's own 'gosem.cut.vars' lays the variable. In a bare row this is a premise. The card (YtbcnejobnmljlaaDoorCards.lean) ties it to the program's text. -/
def laid_math_bits_deBruijn64tab {H : Type} : DataW H := .agg [.lit (.int .u8 0), .lit (.int .u8 1), .lit (.int .u8 56), .lit (.int .u8 2), .lit (.int .u8 57), .lit (.int .u8 49), .lit (.int .u8 28), .lit (.int .u8 3), .lit (.int .u8 61), .lit (.int .u8 58), .lit (.int .u8 42), .lit (.int .u8 50), .lit (.int .u8 38), .lit (.int .u8 29), .lit (.int .u8 17), .lit (.int .u8 4), .lit (.int .u8 62), .lit (.int .u8 47), .lit (.int .u8 59), .lit (.int .u8 36), .lit (.int .u8 45), .lit (.int .u8 43), .lit (.int .u8 51), .lit (.int .u8 22), .lit (.int .u8 53), .lit (.int .u8 39), .lit (.int .u8 33), .lit (.int .u8 30), .lit (.int .u8 24), .lit (.int .u8 18), .lit (.int .u8 12), .lit (.int .u8 5), .lit (.int .u8 63), .lit (.int .u8 55), .lit (.int .u8 48), .lit (.int .u8 27), .lit (.int .u8 60), .lit (.int .u8 41), .lit (.int .u8 37), .lit (.int .u8 16), .lit (.int .u8 46), .lit (.int .u8 35), .lit (.int .u8 44), .lit (.int .u8 21), .lit (.int .u8 52), .lit (.int .u8 32), .lit (.int .u8 23), .lit (.int .u8 11), .lit (.int .u8 54), .lit (.int .u8 26), .lit (.int .u8 40), .lit (.int .u8 15), .lit (.int .u8 34), .lit (.int .u8 20), .lit (.int .u8 31), .lit (.int .u8 10), .lit (.int .u8 25), .lit (.int .u8 14), .lit (.int .u8 19), .lit (.int .u8 9), .lit (.int .u8 13), .lit (.int .u8 8), .lit (.int .u8 7), .lit (.int .u8 6)]

/-- 'intarsialaw15.BitsTurn': WHATEVER THE INPUT: true; the input reads as it did. -/
def bitsTurnSpec : ChangeSpec := { name := "bitsTurn", fn := fun _ => fun
  | [d1, d2, d3] => { results := [.lit (.bool true)], args := [d1, d2, d3] }
  | _ => none }
def bitsTurnRow : OpenClaim := { program := "ytbcnejobnmljlaadoor", sum := "304a9099110cd132ad4e6dd2c29e8b0a99cefff683249790d60666ebf294d386", func := "intarsia/intarsialaw15.BitsTurn", spec := "bitsTurn", unfollowed := true, recurses := true, named := ["math/bits.deBruijn64tab"], apart := false, laid := [("math/bits.deBruijn64tab", laid_math_bits_deBruijn64tab)] }
def BitsTurnSaid : Prop := bitsTurnRow.holds Tryd.pinned (OpenSpec.ofChange bitsTurnSpec)

/-- ITS FALSE NEIGHBOUR: 'it returns false'. Refute it at one input. -/
def bitsTurnWrong : ChangeSpec := { name := "bitsTurn", fn := fun _ => fun
  | [d1, d2, d3] => { results := [.lit (.bool false)], args := [d1, d2, d3] }
  | _ => none }
def BitsTurnWrongFalsely : Prop := bitsTurnRow.holds Tryd.pinned (OpenSpec.ofChange bitsTurnWrong)

/-- 'intarsialaw15.BitsLaws': WHATEVER THE INPUT: true; the input reads as it did. -/
def bitsLawsSpec : ChangeSpec := { name := "bitsLaws", fn := fun _ => fun
  | [d1, d2, d3] => { results := [.lit (.bool true)], args := [d1, d2, d3] }
  | _ => none }
def bitsLawsRow : OpenClaim := { program := "ytbcnejobnmljlaadoor", sum := "304a9099110cd132ad4e6dd2c29e8b0a99cefff683249790d60666ebf294d386", func := "intarsia/intarsialaw15.BitsLaws", spec := "bitsLaws", unfollowed := true, recurses := true, named := ["math/bits.deBruijn64tab"], apart := false, laid := [("math/bits.deBruijn64tab", laid_math_bits_deBruijn64tab)] }
def BitsLawsSaid : Prop := bitsLawsRow.holds Tryd.pinned (OpenSpec.ofChange bitsLawsSpec)

/-- ITS FALSE NEIGHBOUR: 'it returns false'. Refute it at one input. -/
def bitsLawsWrong : ChangeSpec := { name := "bitsLaws", fn := fun _ => fun
  | [d1, d2, d3] => { results := [.lit (.bool false)], args := [d1, d2, d3] }
  | _ => none }
def BitsLawsWrongFalsely : Prop := bitsLawsRow.holds Tryd.pinned (OpenSpec.ofChange bitsLawsWrong)

/-- 'intarsialaw10.FlowOrder': WHATEVER THE INPUT: true; the input reads as it did. -/
def flowOrderSpec : ChangeSpec := { name := "flowOrder", fn := fun _ => fun
  | [d] => { results := [.lit (.bool true)], args := [d] }
  | _ => none }
def flowOrderRow : OpenClaim := { program := "ytbcnejobnmljlaadoor", sum := "304a9099110cd132ad4e6dd2c29e8b0a99cefff683249790d60666ebf294d386", func := "intarsia/intarsialaw10.FlowOrder", spec := "flowOrder", unfollowed := true, recurses := true, named := ["math/bits.deBruijn64tab"], apart := false, laid := [("math/bits.deBruijn64tab", laid_math_bits_deBruijn64tab)] }
def FlowOrderSaid : Prop := flowOrderRow.holds Tryd.pinned (OpenSpec.ofChange flowOrderSpec)

/-- ITS FALSE NEIGHBOUR: 'it returns false'. Refute it at one input. -/
def flowOrderWrong : ChangeSpec := { name := "flowOrder", fn := fun _ => fun
  | [d] => { results := [.lit (.bool false)], args := [d] }
  | _ => none }
def FlowOrderWrongFalsely : Prop := flowOrderRow.holds Tryd.pinned (OpenSpec.ofChange flowOrderWrong)

/-- 'intarsialaw10.FlowCounts': WHATEVER THE INPUT: true; the input reads as it did. -/
def flowCountsSpec : ChangeSpec := { name := "flowCounts", fn := fun _ => fun
  | [d1, d2, d3] => { results := [.lit (.bool true)], args := [d1, d2, d3] }
  | _ => none }
def flowCountsRow : OpenClaim := { program := "ytbcnejobnmljlaadoor", sum := "304a9099110cd132ad4e6dd2c29e8b0a99cefff683249790d60666ebf294d386", func := "intarsia/intarsialaw10.FlowCounts", spec := "flowCounts", unfollowed := true, recurses := true, named := ["math/bits.deBruijn64tab"], apart := false, laid := [("math/bits.deBruijn64tab", laid_math_bits_deBruijn64tab)] }
def FlowCountsSaid : Prop := flowCountsRow.holds Tryd.pinned (OpenSpec.ofChange flowCountsSpec)

/-- ITS FALSE NEIGHBOUR: 'it returns false'. Refute it at one input. -/
def flowCountsWrong : ChangeSpec := { name := "flowCounts", fn := fun _ => fun
  | [d1, d2, d3] => { results := [.lit (.bool false)], args := [d1, d2, d3] }
  | _ => none }
def FlowCountsWrongFalsely : Prop := flowCountsRow.holds Tryd.pinned (OpenSpec.ofChange flowCountsWrong)

/-- 'intarsialaw11.DomTree': WHATEVER THE INPUT: true; the input reads as it did. -/
def domTreeSpec : ChangeSpec := { name := "domTree", fn := fun _ => fun
  | [d] => { results := [.lit (.bool true)], args := [d] }
  | _ => none }
def domTreeRow : OpenClaim := { program := "ytbcnejobnmljlaadoor", sum := "304a9099110cd132ad4e6dd2c29e8b0a99cefff683249790d60666ebf294d386", func := "intarsia/intarsialaw11.DomTree", spec := "domTree", unfollowed := true, recurses := true, named := ["math/bits.deBruijn64tab"], apart := false, laid := [("math/bits.deBruijn64tab", laid_math_bits_deBruijn64tab)] }
def DomTreeSaid : Prop := domTreeRow.holds Tryd.pinned (OpenSpec.ofChange domTreeSpec)

/-- ITS FALSE NEIGHBOUR: 'it returns false'. Refute it at one input. -/
def domTreeWrong : ChangeSpec := { name := "domTree", fn := fun _ => fun
  | [d] => { results := [.lit (.bool false)], args := [d] }
  | _ => none }
def DomTreeWrongFalsely : Prop := domTreeRow.holds Tryd.pinned (OpenSpec.ofChange domTreeWrong)

/-- 'intarsialaw16.LiveAhead': WHATEVER THE INPUT: true; the input reads as it did. -/
def liveAheadSpec : ChangeSpec := { name := "liveAhead", fn := fun _ => fun
  | [d1, d2] => { results := [.lit (.bool true)], args := [d1, d2] }
  | _ => none }
def liveAheadRow : OpenClaim := { program := "ytbcnejobnmljlaadoor", sum := "304a9099110cd132ad4e6dd2c29e8b0a99cefff683249790d60666ebf294d386", func := "intarsia/intarsialaw16.LiveAhead", spec := "liveAhead", unfollowed := true, recurses := true, named := ["math/bits.deBruijn64tab"], apart := false, laid := [("math/bits.deBruijn64tab", laid_math_bits_deBruijn64tab)] }
def LiveAheadSaid : Prop := liveAheadRow.holds Tryd.pinned (OpenSpec.ofChange liveAheadSpec)

/-- ITS FALSE NEIGHBOUR: 'it returns false'. Refute it at one input. -/
def liveAheadWrong : ChangeSpec := { name := "liveAhead", fn := fun _ => fun
  | [d1, d2] => { results := [.lit (.bool false)], args := [d1, d2] }
  | _ => none }
def LiveAheadWrongFalsely : Prop := liveAheadRow.holds Tryd.pinned (OpenSpec.ofChange liveAheadWrong)

/-- 'intarsialaw16.LiveLeast': WHATEVER THE INPUT: true; the input reads as it did. -/
def liveLeastSpec : ChangeSpec := { name := "liveLeast", fn := fun _ => fun
  | [d] => { results := [.lit (.bool true)], args := [d] }
  | _ => none }
def liveLeastRow : OpenClaim := { program := "ytbcnejobnmljlaadoor", sum := "304a9099110cd132ad4e6dd2c29e8b0a99cefff683249790d60666ebf294d386", func := "intarsia/intarsialaw16.LiveLeast", spec := "liveLeast", unfollowed := true, recurses := true, named := ["math/bits.deBruijn64tab"], apart := false, laid := [("math/bits.deBruijn64tab", laid_math_bits_deBruijn64tab)] }
def LiveLeastSaid : Prop := liveLeastRow.holds Tryd.pinned (OpenSpec.ofChange liveLeastSpec)

/-- ITS FALSE NEIGHBOUR: 'it returns false'. Refute it at one input. -/
def liveLeastWrong : ChangeSpec := { name := "liveLeast", fn := fun _ => fun
  | [d] => { results := [.lit (.bool false)], args := [d] }
  | _ => none }
def LiveLeastWrongFalsely : Prop := liveLeastRow.holds Tryd.pinned (OpenSpec.ofChange liveLeastWrong)

/- THE SECOND FORM. 'bulk': how many values and letters a reading holds, each counted each time it is reached (what is shared counts as often as it is met; a slice's spare places count too). A statement '..UptoSaid' is the law's where the arguments, and the package variables that the reading takes, are together of bulk at most 1048576: NARROWER than '..Said'. Prove '..Said' where nothing that the law and all that it calls make is longer than what came in: it says more and counts as full. Else prove '..UptoSaid'. A law counts once. -/
mutual
def uptoBulk {H : Type} : DataW H → Nat
  | .lit (.string bytes) => bytes.length + 1
  | .lit _ => 1
  | .nil => 1
  | .ptr d => uptoBulk d + 1
  | .slice elems spare => uptoBulkAll elems + uptoBulkAll spare + 1
  | .agg parts => uptoBulkAll parts + 1
  | .iface _ d => uptoBulk d + 1
  | .map entries => uptoBulkEntries entries + 1
  | .held _ => 1
def uptoBulkAll {H : Type} : List (DataW H) → Nat
  | [] => 0
  | d :: r => uptoBulk d + uptoBulkAll r
def uptoBulkEntries {H : Type} : List (Lit × DataW H) → Nat
  | [] => 0
  | x :: r => uptoBulkEntry x + uptoBulkEntries r
def uptoBulkEntry {H : Type} : Lit × DataW H → Nat
  | (.string bytes, d) => bytes.length + uptoBulk d + 1
  | (_, d) => uptoBulk d + 1
 end
def uptoSmall : (H : Type) → List (DataW H) → Bool := fun _ ds => decide (uptoBulkAll ds ≤ 1048576)
def OpenSpec.upto (s : _root_.Go.ChangeSpec) : _root_.Go.OpenSpec := { _root_.Go.OpenSpec.ofChange s with cond := some uptoSmall }

/-- 'intarsialaw15.BitsTurn', WHERE WHAT IT READS IS OF BULK AT MOST 1048576: true; the input reads as it did. -/
def bitsTurnUptoRow : OpenClaim := { program := "ytbcnejobnmljlaadoor", sum := "304a9099110cd132ad4e6dd2c29e8b0a99cefff683249790d60666ebf294d386", func := "intarsia/intarsialaw15.BitsTurn", spec := "bitsTurn", unfollowed := true, recurses := true, named := ["math/bits.deBruijn64tab"], apart := false, laid := [("math/bits.deBruijn64tab", laid_math_bits_deBruijn64tab)], narrowed := true }
def BitsTurnUptoSaid : Prop := bitsTurnUptoRow.holds Tryd.pinned (OpenSpec.upto bitsTurnSpec)

/-- 'intarsialaw15.BitsLaws', WHERE WHAT IT READS IS OF BULK AT MOST 1048576: true; the input reads as it did. -/
def bitsLawsUptoRow : OpenClaim := { program := "ytbcnejobnmljlaadoor", sum := "304a9099110cd132ad4e6dd2c29e8b0a99cefff683249790d60666ebf294d386", func := "intarsia/intarsialaw15.BitsLaws", spec := "bitsLaws", unfollowed := true, recurses := true, named := ["math/bits.deBruijn64tab"], apart := false, laid := [("math/bits.deBruijn64tab", laid_math_bits_deBruijn64tab)], narrowed := true }
def BitsLawsUptoSaid : Prop := bitsLawsUptoRow.holds Tryd.pinned (OpenSpec.upto bitsLawsSpec)

/-- 'intarsialaw10.FlowOrder', WHERE WHAT IT READS IS OF BULK AT MOST 1048576: true; the input reads as it did. -/
def flowOrderUptoRow : OpenClaim := { program := "ytbcnejobnmljlaadoor", sum := "304a9099110cd132ad4e6dd2c29e8b0a99cefff683249790d60666ebf294d386", func := "intarsia/intarsialaw10.FlowOrder", spec := "flowOrder", unfollowed := true, recurses := true, named := ["math/bits.deBruijn64tab"], apart := false, laid := [("math/bits.deBruijn64tab", laid_math_bits_deBruijn64tab)], narrowed := true }
def FlowOrderUptoSaid : Prop := flowOrderUptoRow.holds Tryd.pinned (OpenSpec.upto flowOrderSpec)

/-- 'intarsialaw10.FlowCounts', WHERE WHAT IT READS IS OF BULK AT MOST 1048576: true; the input reads as it did. -/
def flowCountsUptoRow : OpenClaim := { program := "ytbcnejobnmljlaadoor", sum := "304a9099110cd132ad4e6dd2c29e8b0a99cefff683249790d60666ebf294d386", func := "intarsia/intarsialaw10.FlowCounts", spec := "flowCounts", unfollowed := true, recurses := true, named := ["math/bits.deBruijn64tab"], apart := false, laid := [("math/bits.deBruijn64tab", laid_math_bits_deBruijn64tab)], narrowed := true }
def FlowCountsUptoSaid : Prop := flowCountsUptoRow.holds Tryd.pinned (OpenSpec.upto flowCountsSpec)

/-- 'intarsialaw11.DomTree', WHERE WHAT IT READS IS OF BULK AT MOST 1048576: true; the input reads as it did. -/
def domTreeUptoRow : OpenClaim := { program := "ytbcnejobnmljlaadoor", sum := "304a9099110cd132ad4e6dd2c29e8b0a99cefff683249790d60666ebf294d386", func := "intarsia/intarsialaw11.DomTree", spec := "domTree", unfollowed := true, recurses := true, named := ["math/bits.deBruijn64tab"], apart := false, laid := [("math/bits.deBruijn64tab", laid_math_bits_deBruijn64tab)], narrowed := true }
def DomTreeUptoSaid : Prop := domTreeUptoRow.holds Tryd.pinned (OpenSpec.upto domTreeSpec)

/-- 'intarsialaw16.LiveAhead', WHERE WHAT IT READS IS OF BULK AT MOST 1048576: true; the input reads as it did. -/
def liveAheadUptoRow : OpenClaim := { program := "ytbcnejobnmljlaadoor", sum := "304a9099110cd132ad4e6dd2c29e8b0a99cefff683249790d60666ebf294d386", func := "intarsia/intarsialaw16.LiveAhead", spec := "liveAhead", unfollowed := true, recurses := true, named := ["math/bits.deBruijn64tab"], apart := false, laid := [("math/bits.deBruijn64tab", laid_math_bits_deBruijn64tab)], narrowed := true }
def LiveAheadUptoSaid : Prop := liveAheadUptoRow.holds Tryd.pinned (OpenSpec.upto liveAheadSpec)

/-- 'intarsialaw16.LiveLeast', WHERE WHAT IT READS IS OF BULK AT MOST 1048576: true; the input reads as it did. -/
def liveLeastUptoRow : OpenClaim := { program := "ytbcnejobnmljlaadoor", sum := "304a9099110cd132ad4e6dd2c29e8b0a99cefff683249790d60666ebf294d386", func := "intarsia/intarsialaw16.LiveLeast", spec := "liveLeast", unfollowed := true, recurses := true, named := ["math/bits.deBruijn64tab"], apart := false, laid := [("math/bits.deBruijn64tab", laid_math_bits_deBruijn64tab)], narrowed := true }
def LiveLeastUptoSaid : Prop := liveLeastUptoRow.holds Tryd.pinned (OpenSpec.upto liveLeastSpec)

end Rows
end Go.Proofs.YtbcnejobnmljlaaDoor
