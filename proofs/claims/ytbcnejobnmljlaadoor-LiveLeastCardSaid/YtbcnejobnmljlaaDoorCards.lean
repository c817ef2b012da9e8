/-
  DERIVED. GIVEN WITH THE SEED: THE CARDS: each row of YtbcnejobnmljlaaDoorRows.lean that lists a variable, with what it lists TIED to the program's text (the seventh form; the later family's looks); each row that meets fmt, with fmt's text TOLD by the authors' own Lean function (tested against real Go, not proved from fmt's source: count such statements apart). THE CARD IS WHAT COUNTS. Prove the row's statement (the work); the ties are given (YtbcnejobnmljlaaDoorTie.lean); close each card by the builder's one call (the guide's Derived/Test/ToyasCard.lean, 'card_holds'). Laid BY PROGRAM, IN A SANDBOX (cutbox-door.mjs). By AI agents, Wed Nov 11 2026. No macro, syntax, notation, axiom, sorry.
-/
import Derived.Test.YtbcnejobnmljlaaDoorRows
import GoSem.ClaimSeven
namespace Go.Proofs.YtbcnejobnmljlaaDoor
namespace Rows

/-- THE TIED CARD OF 'intarsialaw15.BitsTurn'. -/
def bitsTurnCard : Claim7 := { stood := { row := bitsTurnRow, standIns := [], harness := (true, "39d6b4b84262ab07ced816a6baa476a5d97cc8c98fc1f70e8033af713f6f2fe1"), looks := false }, kinds := [], alts := [], laidByText := true, laidKinds := [.data], laidTests := true, laidLooks := .later }
def BitsTurnCardSaid : Prop := Claim7.holds Tryd.pinned (.plain (OpenSpec.ofChange bitsTurnSpec)) bitsTurnCard

/-- THE TIED CARD OF 'intarsialaw15.BitsLaws'. -/
def bitsLawsCard : Claim7 := { stood := { row := bitsLawsRow, standIns := [], harness := (true, "39d6b4b84262ab07ced816a6baa476a5d97cc8c98fc1f70e8033af713f6f2fe1"), looks := false }, kinds := [], alts := [], laidByText := true, laidKinds := [.data], laidTests := true, laidLooks := .later }
def BitsLawsCardSaid : Prop := Claim7.holds Tryd.pinned (.plain (OpenSpec.ofChange bitsLawsSpec)) bitsLawsCard

/-- THE TIED CARD OF 'intarsialaw10.FlowOrder'. -/
def flowOrderCard : Claim7 := { stood := { row := flowOrderRow, standIns := [], harness := (true, "39d6b4b84262ab07ced816a6baa476a5d97cc8c98fc1f70e8033af713f6f2fe1"), looks := false }, kinds := [], alts := [], laidByText := true, laidKinds := [.data], laidTests := true, laidLooks := .later }
def FlowOrderCardSaid : Prop := Claim7.holds Tryd.pinned (.plain (OpenSpec.ofChange flowOrderSpec)) flowOrderCard

/-- THE TIED CARD OF 'intarsialaw10.FlowCounts'. -/
def flowCountsCard : Claim7 := { stood := { row := flowCountsRow, standIns := [], harness := (true, "39d6b4b84262ab07ced816a6baa476a5d97cc8c98fc1f70e8033af713f6f2fe1"), looks := false }, kinds := [], alts := [], laidByText := true, laidKinds := [.data], laidTests := true, laidLooks := .later }
def FlowCountsCardSaid : Prop := Claim7.holds Tryd.pinned (.plain (OpenSpec.ofChange flowCountsSpec)) flowCountsCard

/-- THE TIED CARD OF 'intarsialaw11.DomTree'. -/
def domTreeCard : Claim7 := { stood := { row := domTreeRow, standIns := [], harness := (true, "39d6b4b84262ab07ced816a6baa476a5d97cc8c98fc1f70e8033af713f6f2fe1"), looks := false }, kinds := [], alts := [], laidByText := true, laidKinds := [.data], laidTests := true, laidLooks := .later }
def DomTreeCardSaid : Prop := Claim7.holds Tryd.pinned (.plain (OpenSpec.ofChange domTreeSpec)) domTreeCard

/-- THE TIED CARD OF 'intarsialaw16.LiveAhead'. -/
def liveAheadCard : Claim7 := { stood := { row := liveAheadRow, standIns := [], harness := (true, "39d6b4b84262ab07ced816a6baa476a5d97cc8c98fc1f70e8033af713f6f2fe1"), looks := false }, kinds := [], alts := [], laidByText := true, laidKinds := [.data], laidTests := true, laidLooks := .later }
def LiveAheadCardSaid : Prop := Claim7.holds Tryd.pinned (.plain (OpenSpec.ofChange liveAheadSpec)) liveAheadCard

/-- THE TIED CARD OF 'intarsialaw16.LiveLeast'. -/
def liveLeastCard : Claim7 := { stood := { row := liveLeastRow, standIns := [], harness := (true, "39d6b4b84262ab07ced816a6baa476a5d97cc8c98fc1f70e8033af713f6f2fe1"), looks := false }, kinds := [], alts := [], laidByText := true, laidKinds := [.data], laidTests := true, laidLooks := .later }
def LiveLeastCardSaid : Prop := Claim7.holds Tryd.pinned (.plain (OpenSpec.ofChange liveLeastSpec)) liveLeastCard

/-- THE SECOND FORM's CARD OF 'intarsialaw15.BitsTurn'. -/
def bitsTurnUptoCard : Claim7 := { stood := { row := bitsTurnUptoRow, standIns := [], harness := (true, "39d6b4b84262ab07ced816a6baa476a5d97cc8c98fc1f70e8033af713f6f2fe1"), looks := false }, kinds := [], alts := [], laidByText := true, laidKinds := [.data], laidTests := true, laidLooks := .later }
def BitsTurnUptoCardSaid : Prop := Claim7.holds Tryd.pinned (.plain (OpenSpec.upto bitsTurnSpec)) bitsTurnUptoCard

/-- THE SECOND FORM's CARD OF 'intarsialaw15.BitsLaws'. -/
def bitsLawsUptoCard : Claim7 := { stood := { row := bitsLawsUptoRow, standIns := [], harness := (true, "39d6b4b84262ab07ced816a6baa476a5d97cc8c98fc1f70e8033af713f6f2fe1"), looks := false }, kinds := [], alts := [], laidByText := true, laidKinds := [.data], laidTests := true, laidLooks := .later }
def BitsLawsUptoCardSaid : Prop := Claim7.holds Tryd.pinned (.plain (OpenSpec.upto bitsLawsSpec)) bitsLawsUptoCard

/-- THE SECOND FORM's CARD OF 'intarsialaw10.FlowOrder'. -/
def flowOrderUptoCard : Claim7 := { stood := { row := flowOrderUptoRow, standIns := [], harness := (true, "39d6b4b84262ab07ced816a6baa476a5d97cc8c98fc1f70e8033af713f6f2fe1"), looks := false }, kinds := [], alts := [], laidByText := true, laidKinds := [.data], laidTests := true, laidLooks := .later }
def FlowOrderUptoCardSaid : Prop := Claim7.holds Tryd.pinned (.plain (OpenSpec.upto flowOrderSpec)) flowOrderUptoCard

/-- THE SECOND FORM's CARD OF 'intarsialaw10.FlowCounts'. -/
def flowCountsUptoCard : Claim7 := { stood := { row := flowCountsUptoRow, standIns := [], harness := (true, "39d6b4b84262ab07ced816a6baa476a5d97cc8c98fc1f70e8033af713f6f2fe1"), looks := false }, kinds := [], alts := [], laidByText := true, laidKinds := [.data], laidTests := true, laidLooks := .later }
def FlowCountsUptoCardSaid : Prop := Claim7.holds Tryd.pinned (.plain (OpenSpec.upto flowCountsSpec)) flowCountsUptoCard

/-- THE SECOND FORM's CARD OF 'intarsialaw11.DomTree'. -/
def domTreeUptoCard : Claim7 := { stood := { row := domTreeUptoRow, standIns := [], harness := (true, "39d6b4b84262ab07ced816a6baa476a5d97cc8c98fc1f70e8033af713f6f2fe1"), looks := false }, kinds := [], alts := [], laidByText := true, laidKinds := [.data], laidTests := true, laidLooks := .later }
def DomTreeUptoCardSaid : Prop := Claim7.holds Tryd.pinned (.plain (OpenSpec.upto domTreeSpec)) domTreeUptoCard

/-- THE SECOND FORM's CARD OF 'intarsialaw16.LiveAhead'. -/
def liveAheadUptoCard : Claim7 := { stood := { row := liveAheadUptoRow, standIns := [], harness := (true, "39d6b4b84262ab07ced816a6baa476a5d97cc8c98fc1f70e8033af713f6f2fe1"), looks := false }, kinds := [], alts := [], laidByText := true, laidKinds := [.data], laidTests := true, laidLooks := .later }
def LiveAheadUptoCardSaid : Prop := Claim7.holds Tryd.pinned (.plain (OpenSpec.upto liveAheadSpec)) liveAheadUptoCard

/-- THE SECOND FORM's CARD OF 'intarsialaw16.LiveLeast'. -/
def liveLeastUptoCard : Claim7 := { stood := { row := liveLeastUptoRow, standIns := [], harness := (true, "39d6b4b84262ab07ced816a6baa476a5d97cc8c98fc1f70e8033af713f6f2fe1"), looks := false }, kinds := [], alts := [], laidByText := true, laidKinds := [.data], laidTests := true, laidLooks := .later }
def LiveLeastUptoCardSaid : Prop := Claim7.holds Tryd.pinned (.plain (OpenSpec.upto liveLeastSpec)) liveLeastUptoCard
end Rows
end Go.Proofs.YtbcnejobnmljlaaDoor
