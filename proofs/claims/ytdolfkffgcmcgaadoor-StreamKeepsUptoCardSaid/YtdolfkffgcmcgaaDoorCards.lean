/-
  DERIVED. GIVEN WITH THE SEED: THE CARDS: each row of YtdolfkffgcmcgaaDoorRows.lean that lists a variable, with what it lists TIED to the program's text (the seventh form; the later family's looks); each row that meets fmt, with fmt's text TOLD by the authors' own Lean function (tested against real Go, not proved from fmt's source: count such statements apart). THE CARD IS WHAT COUNTS. Prove the row's statement (the work); the ties are given (YtdolfkffgcmcgaaDoorTie.lean); close each card by the builder's one call (the guide's Derived/Test/ToyasCard.lean, 'card_holds'). Laid BY PROGRAM, IN A SANDBOX (cutbox-door.mjs). By AI agents, Wed Nov 11 2026. No macro, syntax, notation, axiom, sorry.
-/
import Derived.Test.YtdolfkffgcmcgaaDoorRows
import GoSem.ClaimSeven
namespace Go.Proofs.YtdolfkffgcmcgaaDoor
namespace Rows

/-- THE TIED CARD OF 'heddlelaw05.StreamChunks'. -/
def streamChunksCard : Claim7 := { stood := { row := streamChunksRow, standIns := [], harness := (true, "6518d539937fc8cda066beb228af476022526d381bfa282b64069e36cbae269f"), looks := true }, kinds := [], alts := [], laidByText := true, laidKinds := [.handle], laidTests := true, laidLooks := .later }
def StreamChunksCardSaid : Prop := Claim7.holds Tryd.pinned (.plain (OpenSpec.ofChange streamChunksSpec)) streamChunksCard

/-- THE TIED CARD OF 'heddlelaw05.StreamOwn'. -/
def streamOwnCard : Claim7 := { stood := { row := streamOwnRow, standIns := [], harness := (true, "6518d539937fc8cda066beb228af476022526d381bfa282b64069e36cbae269f"), looks := true }, kinds := [], alts := [], laidByText := true, laidKinds := [.handle], laidTests := true, laidLooks := .later }
def StreamOwnCardSaid : Prop := Claim7.holds Tryd.pinned (.plain (OpenSpec.ofChange streamOwnSpec)) streamOwnCard

/-- THE TIED CARD OF 'heddlelaw05.StreamFull'. -/
def streamFullCard : Claim7 := { stood := { row := streamFullRow, standIns := [], harness := (true, "6518d539937fc8cda066beb228af476022526d381bfa282b64069e36cbae269f"), looks := true }, kinds := [], alts := [], laidByText := true, laidKinds := [.handle], laidTests := true, laidLooks := .later }
def StreamFullCardSaid : Prop := Claim7.holds Tryd.pinned (.plain (OpenSpec.ofChange streamFullSpec)) streamFullCard

/-- THE TIED CARD OF 'heddlelaw05.StreamOrders'. -/
def streamOrdersCard : Claim7 := { stood := { row := streamOrdersRow, standIns := [], harness := (true, "6518d539937fc8cda066beb228af476022526d381bfa282b64069e36cbae269f"), looks := true }, kinds := [], alts := [], laidByText := true, laidKinds := [.handle], laidTests := true, laidLooks := .later }
def StreamOrdersCardSaid : Prop := Claim7.holds Tryd.pinned (.plain (OpenSpec.ofChange streamOrdersSpec)) streamOrdersCard

/-- THE TIED CARD OF 'heddlelaw05.StreamRuns'. -/
def streamRunsCard : Claim7 := { stood := { row := streamRunsRow, standIns := [], harness := (true, "6518d539937fc8cda066beb228af476022526d381bfa282b64069e36cbae269f"), looks := true }, kinds := [], alts := [], laidByText := true, laidKinds := [.handle], laidTests := true, laidLooks := .later }
def StreamRunsCardSaid : Prop := Claim7.holds Tryd.pinned (.plain (OpenSpec.ofChange streamRunsSpec)) streamRunsCard

/-- THE TIED CARD OF 'heddlelaw05.StreamKeeps'. -/
def streamKeepsCard : Claim7 := { stood := { row := streamKeepsRow, standIns := [], harness := (true, "6518d539937fc8cda066beb228af476022526d381bfa282b64069e36cbae269f"), looks := true }, kinds := [], alts := [], laidByText := true, laidKinds := [.handle], laidTests := true, laidLooks := .later }
def StreamKeepsCardSaid : Prop := Claim7.holds Tryd.pinned (.plain (OpenSpec.ofChange streamKeepsSpec)) streamKeepsCard

/-- THE TIED CARD OF 'heddlelaw05.StreamNobody'. -/
def streamNobodyCard : Claim7 := { stood := { row := streamNobodyRow, standIns := [], harness := (true, "6518d539937fc8cda066beb228af476022526d381bfa282b64069e36cbae269f"), looks := true }, kinds := [], alts := [], laidByText := true, laidKinds := [.handle], laidTests := true, laidLooks := .later }
def StreamNobodyCardSaid : Prop := Claim7.holds Tryd.pinned (.plain (OpenSpec.ofChange streamNobodySpec)) streamNobodyCard

/-- THE SECOND FORM's CARD OF 'heddlelaw05.StreamChunks'. -/
def streamChunksUptoCard : Claim7 := { stood := { row := streamChunksUptoRow, standIns := [], harness := (true, "6518d539937fc8cda066beb228af476022526d381bfa282b64069e36cbae269f"), looks := true }, kinds := [], alts := [], laidByText := true, laidKinds := [.handle], laidTests := true, laidLooks := .later }
def StreamChunksUptoCardSaid : Prop := Claim7.holds Tryd.pinned (.plain (OpenSpec.upto streamChunksSpec)) streamChunksUptoCard

/-- THE SECOND FORM's CARD OF 'heddlelaw05.StreamOwn'. -/
def streamOwnUptoCard : Claim7 := { stood := { row := streamOwnUptoRow, standIns := [], harness := (true, "6518d539937fc8cda066beb228af476022526d381bfa282b64069e36cbae269f"), looks := true }, kinds := [], alts := [], laidByText := true, laidKinds := [.handle], laidTests := true, laidLooks := .later }
def StreamOwnUptoCardSaid : Prop := Claim7.holds Tryd.pinned (.plain (OpenSpec.upto streamOwnSpec)) streamOwnUptoCard

/-- THE SECOND FORM's CARD OF 'heddlelaw05.StreamFull'. -/
def streamFullUptoCard : Claim7 := { stood := { row := streamFullUptoRow, standIns := [], harness := (true, "6518d539937fc8cda066beb228af476022526d381bfa282b64069e36cbae269f"), looks := true }, kinds := [], alts := [], laidByText := true, laidKinds := [.handle], laidTests := true, laidLooks := .later }
def StreamFullUptoCardSaid : Prop := Claim7.holds Tryd.pinned (.plain (OpenSpec.upto streamFullSpec)) streamFullUptoCard

/-- THE SECOND FORM's CARD OF 'heddlelaw05.StreamOrders'. -/
def streamOrdersUptoCard : Claim7 := { stood := { row := streamOrdersUptoRow, standIns := [], harness := (true, "6518d539937fc8cda066beb228af476022526d381bfa282b64069e36cbae269f"), looks := true }, kinds := [], alts := [], laidByText := true, laidKinds := [.handle], laidTests := true, laidLooks := .later }
def StreamOrdersUptoCardSaid : Prop := Claim7.holds Tryd.pinned (.plain (OpenSpec.upto streamOrdersSpec)) streamOrdersUptoCard

/-- THE SECOND FORM's CARD OF 'heddlelaw05.StreamRuns'. -/
def streamRunsUptoCard : Claim7 := { stood := { row := streamRunsUptoRow, standIns := [], harness := (true, "6518d539937fc8cda066beb228af476022526d381bfa282b64069e36cbae269f"), looks := true }, kinds := [], alts := [], laidByText := true, laidKinds := [.handle], laidTests := true, laidLooks := .later }
def StreamRunsUptoCardSaid : Prop := Claim7.holds Tryd.pinned (.plain (OpenSpec.upto streamRunsSpec)) streamRunsUptoCard

/-- THE SECOND FORM's CARD OF 'heddlelaw05.StreamKeeps'. -/
def streamKeepsUptoCard : Claim7 := { stood := { row := streamKeepsUptoRow, standIns := [], harness := (true, "6518d539937fc8cda066beb228af476022526d381bfa282b64069e36cbae269f"), looks := true }, kinds := [], alts := [], laidByText := true, laidKinds := [.handle], laidTests := true, laidLooks := .later }
def StreamKeepsUptoCardSaid : Prop := Claim7.holds Tryd.pinned (.plain (OpenSpec.upto streamKeepsSpec)) streamKeepsUptoCard

/-- THE SECOND FORM's CARD OF 'heddlelaw05.StreamNobody'. -/
def streamNobodyUptoCard : Claim7 := { stood := { row := streamNobodyUptoRow, standIns := [], harness := (true, "6518d539937fc8cda066beb228af476022526d381bfa282b64069e36cbae269f"), looks := true }, kinds := [], alts := [], laidByText := true, laidKinds := [.handle], laidTests := true, laidLooks := .later }
def StreamNobodyUptoCardSaid : Prop := Claim7.holds Tryd.pinned (.plain (OpenSpec.upto streamNobodySpec)) streamNobodyUptoCard
end Rows
end Go.Proofs.YtdolfkffgcmcgaaDoor
