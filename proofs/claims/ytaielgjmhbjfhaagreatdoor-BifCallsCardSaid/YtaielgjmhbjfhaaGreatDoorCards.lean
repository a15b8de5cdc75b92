/-
  DERIVED. GIVEN WITH THE SEED: THE CARDS: each row of YtaielgjmhbjfhaaGreatDoorRows.lean that lists a variable, with what it lists TIED to the program's text (the seventh form; the later family's looks); each row that meets fmt, with fmt's text TOLD by the authors' own Lean function (tested against real Go, not proved from fmt's source: count such statements apart). THE CARD IS WHAT COUNTS. Prove the row's statement (the work); the ties are given (YtaielgjmhbjfhaaGreatDoorTie.lean); close each card by the builder's one call (the guide's Derived/Test/ToyasCard.lean, 'card_holds'). Laid BY PROGRAM, IN A SANDBOX (cutbox-door.mjs). By AI agents, Wed Nov 11 2026. No macro, syntax, notation, axiom, sorry.
-/
import Derived.Test.YtaielgjmhbjfhaaGreatDoorRows
import GoSem.ClaimSeven
namespace Go.Proofs.YtaielgjmhbjfhaaGreatDoor
namespace Rows

/-- THE TIED CARD OF 'heddlelaw13.BifNames'. -/
def bifNamesCard : Claim7 := { stood := { row := bifNamesRow, standIns := [], harness := (true, "3f0fc66d6b8023d1f866cb9527f598b7b1f45db495df28ac5fa359f9fd4ad64c"), looks := true }, kinds := [], alts := [], laidByText := true, laidKinds := [.data, .data, .data, .data, .handle, .listed, .data, .pinned], laidTests := true, laidLooks := .later }
def BifNamesCardSaid : Prop := Claim7.holds Tryz.pinned (.plain (OpenSpec.ofChange bifNamesSpec)) bifNamesCard

/-- THE TIED CARD OF 'heddlelaw13.BifOrders'. -/
def bifOrdersCard : Claim7 := { stood := { row := bifOrdersRow, standIns := [], harness := (true, "3f0fc66d6b8023d1f866cb9527f598b7b1f45db495df28ac5fa359f9fd4ad64c"), looks := true }, kinds := [], alts := [], laidByText := true, laidKinds := [.data, .data, .data, .data, .handle, .listed, .data, .pinned], laidTests := true, laidLooks := .later }
def BifOrdersCardSaid : Prop := Claim7.holds Tryz.pinned (.plain (OpenSpec.ofChange bifOrdersSpec)) bifOrdersCard

/-- THE TIED CARD OF 'heddlelaw13.BifLists'. -/
def bifListsCard : Claim7 := { stood := { row := bifListsRow, standIns := [], harness := (true, "3f0fc66d6b8023d1f866cb9527f598b7b1f45db495df28ac5fa359f9fd4ad64c"), looks := true }, kinds := [], alts := [], laidByText := true, laidKinds := [.data, .data, .data, .data, .handle, .listed, .data, .pinned], laidTests := true, laidLooks := .later }
def BifListsCardSaid : Prop := Claim7.holds Tryz.pinned (.plain (OpenSpec.ofChange bifListsSpec)) bifListsCard

/-- THE TIED CARD OF 'heddlelaw13.BifInts'. -/
def bifIntsCard : Claim7 := { stood := { row := bifIntsRow, standIns := [], harness := (true, "3f0fc66d6b8023d1f866cb9527f598b7b1f45db495df28ac5fa359f9fd4ad64c"), looks := true }, kinds := [], alts := [], laidByText := true, laidKinds := [.data, .data, .data, .data, .handle, .listed, .data, .pinned], laidTests := true, laidLooks := .later }
def BifIntsCardSaid : Prop := Claim7.holds Tryz.pinned (.plain (OpenSpec.ofChange bifIntsSpec)) bifIntsCard

/-- THE TIED CARD OF 'heddlelaw13.BifTrue'. -/
def bifTrueCard : Claim7 := { stood := { row := bifTrueRow, standIns := [], harness := (true, "3f0fc66d6b8023d1f866cb9527f598b7b1f45db495df28ac5fa359f9fd4ad64c"), looks := true }, kinds := [], alts := [], laidByText := true, laidKinds := [.data, .data, .data, .data, .handle, .listed, .data, .pinned], laidTests := true, laidLooks := .later }
def BifTrueCardSaid : Prop := Claim7.holds Tryz.pinned (.plain (OpenSpec.ofChange bifTrueSpec)) bifTrueCard

/-- THE TIED CARD OF 'heddlelaw13.BifOwn'. -/
def bifOwnCard : Claim7 := { stood := { row := bifOwnRow, standIns := [], harness := (true, "3f0fc66d6b8023d1f866cb9527f598b7b1f45db495df28ac5fa359f9fd4ad64c"), looks := true }, kinds := [], alts := [], laidByText := true, laidKinds := [.data, .data, .data, .data, .handle, .listed, .data, .pinned], laidTests := true, laidLooks := .later }
def BifOwnCardSaid : Prop := Claim7.holds Tryz.pinned (.plain (OpenSpec.ofChange bifOwnSpec)) bifOwnCard

/-- THE TIED CARD OF 'heddlelaw13.BifCalls'. -/
def bifCallsCard : Claim7 := { stood := { row := bifCallsRow, standIns := [], harness := (true, "3f0fc66d6b8023d1f866cb9527f598b7b1f45db495df28ac5fa359f9fd4ad64c"), looks := true }, kinds := [], alts := [], laidByText := true, laidKinds := [.data, .data, .data, .data, .handle, .listed, .data, .pinned], laidTests := true, laidLooks := .later }
def BifCallsCardSaid : Prop := Claim7.holds Tryz.pinned (.plain (OpenSpec.ofChange bifCallsSpec)) bifCallsCard

/-- THE TIED CARD OF 'heddlelaw13.BifTuples'. -/
def bifTuplesCard : Claim7 := { stood := { row := bifTuplesRow, standIns := [], harness := (true, "3f0fc66d6b8023d1f866cb9527f598b7b1f45db495df28ac5fa359f9fd4ad64c"), looks := true }, kinds := [], alts := [], laidByText := true, laidKinds := [.data, .data, .data, .data, .handle, .listed, .data, .pinned], laidTests := true, laidLooks := .later }
def BifTuplesCardSaid : Prop := Claim7.holds Tryz.pinned (.plain (OpenSpec.ofChange bifTuplesSpec)) bifTuplesCard

/-- THE SECOND FORM's CARD OF 'heddlelaw13.BifNames'. -/
def bifNamesUptoCard : Claim7 := { stood := { row := bifNamesUptoRow, standIns := [], harness := (true, "3f0fc66d6b8023d1f866cb9527f598b7b1f45db495df28ac5fa359f9fd4ad64c"), looks := true }, kinds := [], alts := [], laidByText := true, laidKinds := [.data, .data, .data, .data, .handle, .listed, .data, .pinned], laidTests := true, laidLooks := .later }
def BifNamesUptoCardSaid : Prop := Claim7.holds Tryz.pinned (.plain (OpenSpec.upto bifNamesSpec)) bifNamesUptoCard

/-- THE SECOND FORM's CARD OF 'heddlelaw13.BifOrders'. -/
def bifOrdersUptoCard : Claim7 := { stood := { row := bifOrdersUptoRow, standIns := [], harness := (true, "3f0fc66d6b8023d1f866cb9527f598b7b1f45db495df28ac5fa359f9fd4ad64c"), looks := true }, kinds := [], alts := [], laidByText := true, laidKinds := [.data, .data, .data, .data, .handle, .listed, .data, .pinned], laidTests := true, laidLooks := .later }
def BifOrdersUptoCardSaid : Prop := Claim7.holds Tryz.pinned (.plain (OpenSpec.upto bifOrdersSpec)) bifOrdersUptoCard

/-- THE SECOND FORM's CARD OF 'heddlelaw13.BifLists'. -/
def bifListsUptoCard : Claim7 := { stood := { row := bifListsUptoRow, standIns := [], harness := (true, "3f0fc66d6b8023d1f866cb9527f598b7b1f45db495df28ac5fa359f9fd4ad64c"), looks := true }, kinds := [], alts := [], laidByText := true, laidKinds := [.data, .data, .data, .data, .handle, .listed, .data, .pinned], laidTests := true, laidLooks := .later }
def BifListsUptoCardSaid : Prop := Claim7.holds Tryz.pinned (.plain (OpenSpec.upto bifListsSpec)) bifListsUptoCard

/-- THE SECOND FORM's CARD OF 'heddlelaw13.BifInts'. -/
def bifIntsUptoCard : Claim7 := { stood := { row := bifIntsUptoRow, standIns := [], harness := (true, "3f0fc66d6b8023d1f866cb9527f598b7b1f45db495df28ac5fa359f9fd4ad64c"), looks := true }, kinds := [], alts := [], laidByText := true, laidKinds := [.data, .data, .data, .data, .handle, .listed, .data, .pinned], laidTests := true, laidLooks := .later }
def BifIntsUptoCardSaid : Prop := Claim7.holds Tryz.pinned (.plain (OpenSpec.upto bifIntsSpec)) bifIntsUptoCard

/-- THE SECOND FORM's CARD OF 'heddlelaw13.BifTrue'. -/
def bifTrueUptoCard : Claim7 := { stood := { row := bifTrueUptoRow, standIns := [], harness := (true, "3f0fc66d6b8023d1f866cb9527f598b7b1f45db495df28ac5fa359f9fd4ad64c"), looks := true }, kinds := [], alts := [], laidByText := true, laidKinds := [.data, .data, .data, .data, .handle, .listed, .data, .pinned], laidTests := true, laidLooks := .later }
def BifTrueUptoCardSaid : Prop := Claim7.holds Tryz.pinned (.plain (OpenSpec.upto bifTrueSpec)) bifTrueUptoCard

/-- THE SECOND FORM's CARD OF 'heddlelaw13.BifOwn'. -/
def bifOwnUptoCard : Claim7 := { stood := { row := bifOwnUptoRow, standIns := [], harness := (true, "3f0fc66d6b8023d1f866cb9527f598b7b1f45db495df28ac5fa359f9fd4ad64c"), looks := true }, kinds := [], alts := [], laidByText := true, laidKinds := [.data, .data, .data, .data, .handle, .listed, .data, .pinned], laidTests := true, laidLooks := .later }
def BifOwnUptoCardSaid : Prop := Claim7.holds Tryz.pinned (.plain (OpenSpec.upto bifOwnSpec)) bifOwnUptoCard

/-- THE SECOND FORM's CARD OF 'heddlelaw13.BifCalls'. -/
def bifCallsUptoCard : Claim7 := { stood := { row := bifCallsUptoRow, standIns := [], harness := (true, "3f0fc66d6b8023d1f866cb9527f598b7b1f45db495df28ac5fa359f9fd4ad64c"), looks := true }, kinds := [], alts := [], laidByText := true, laidKinds := [.data, .data, .data, .data, .handle, .listed, .data, .pinned], laidTests := true, laidLooks := .later }
def BifCallsUptoCardSaid : Prop := Claim7.holds Tryz.pinned (.plain (OpenSpec.upto bifCallsSpec)) bifCallsUptoCard

/-- THE SECOND FORM's CARD OF 'heddlelaw13.BifTuples'. -/
def bifTuplesUptoCard : Claim7 := { stood := { row := bifTuplesUptoRow, standIns := [], harness := (true, "3f0fc66d6b8023d1f866cb9527f598b7b1f45db495df28ac5fa359f9fd4ad64c"), looks := true }, kinds := [], alts := [], laidByText := true, laidKinds := [.data, .data, .data, .data, .handle, .listed, .data, .pinned], laidTests := true, laidLooks := .later }
def BifTuplesUptoCardSaid : Prop := Claim7.holds Tryz.pinned (.plain (OpenSpec.upto bifTuplesSpec)) bifTuplesUptoCard
end Rows
end Go.Proofs.YtaielgjmhbjfhaaGreatDoor
