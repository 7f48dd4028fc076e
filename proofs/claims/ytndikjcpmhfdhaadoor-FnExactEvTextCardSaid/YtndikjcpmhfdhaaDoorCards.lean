/-
  DERIVED. GIVEN WITH THE SEED: THE CARDS: each row of YtndikjcpmhfdhaaDoorRows.lean that lists a variable, with what it lists TIED to the program's text (the seventh form; the later family's looks); each row that meets fmt, with fmt's text TOLD by the authors' own Lean function (tested against real Go, not proved from fmt's source: count such statements apart). THE CARD IS WHAT COUNTS. Prove the row's statement (the work); the ties are given (YtndikjcpmhfdhaaDoorTie.lean); close each card by the builder's one call (the guide's Derived/Test/ToyasCard.lean, 'card_holds'). Laid BY PROGRAM, IN A SANDBOX (cutbox-door.mjs). By AI agents, Wed Nov 11 2026. No macro, syntax, notation, axiom, sorry.
-/
import Derived.Test.YtndikjcpmhfdhaaDoorRows
import GoSem.ClaimSeven
namespace Go.Proofs.YtndikjcpmhfdhaaDoor
namespace Rows

/-- THE TIED CARD OF 'laws.FnReqWords'. -/
def fnReqWordsCard : Claim7 := { stood := { row := fnReqWordsRow, standIns := [], harness := (true, "812b4824b4b3e22ed9b5df68f5ba66de9056f49d0411c9d6bf1afdbac38f8412"), looks := true }, kinds := [], alts := [], laidByText := true, laidKinds := [.data, .data, .data], laidTests := true, laidLooks := .later }
def FnReqWordsCardSaid : Prop := Claim7.holds Tryd.pinned (.plain (OpenSpec.ofChange fnReqWordsSpec)) fnReqWordsCard

/-- THE TIED CARD OF 'laws.FnReqRight'. -/
def fnReqRightCard : Claim7 := { stood := { row := fnReqRightRow, standIns := [], harness := (true, "812b4824b4b3e22ed9b5df68f5ba66de9056f49d0411c9d6bf1afdbac38f8412"), looks := true }, kinds := [], alts := [], laidByText := true, laidKinds := [.data, .data, .data], laidTests := true, laidLooks := .later }
def FnReqRightCardSaid : Prop := Claim7.holds Tryd.pinned (.plain (OpenSpec.ofChange fnReqRightSpec)) fnReqRightCard

/-- THE TIED CARD OF 'laws.FnEvWords'. -/
def fnEvWordsCard : Claim7 := { stood := { row := fnEvWordsRow, standIns := [], harness := (true, "812b4824b4b3e22ed9b5df68f5ba66de9056f49d0411c9d6bf1afdbac38f8412"), looks := true }, kinds := [], alts := [], laidByText := true, laidKinds := [.data, .data, .data], laidTests := true, laidLooks := .later }
def FnEvWordsCardSaid : Prop := Claim7.holds Tryd.pinned (.plain (OpenSpec.ofChange fnEvWordsSpec)) fnEvWordsCard

/-- THE TIED CARD OF 'laws.FnExactEvText'. -/
def fnExactEvTextCard : Claim7 := { stood := { row := fnExactEvTextRow, standIns := [], harness := (true, "812b4824b4b3e22ed9b5df68f5ba66de9056f49d0411c9d6bf1afdbac38f8412"), looks := true }, kinds := [], alts := [], laidByText := true, laidKinds := [.data, .data, .data], laidTests := true, laidLooks := .later }
def FnExactEvTextCardSaid : Prop := Claim7.holds Tryd.pinned (.plain (OpenSpec.ofChange fnExactEvTextSpec)) fnExactEvTextCard

/-- THE TIED CARD OF 'laws.FnExactReqScan'. -/
def fnExactReqScanCard : Claim7 := { stood := { row := fnExactReqScanRow, standIns := [], harness := (true, "812b4824b4b3e22ed9b5df68f5ba66de9056f49d0411c9d6bf1afdbac38f8412"), looks := true }, kinds := [], alts := [], laidByText := true, laidKinds := [.data, .data, .data, .data, .sentinel, .sentinel, .pinned], laidTests := true, laidLooks := .later }
def FnExactReqScanCardSaid : Prop := Claim7.holds Tryd.pinned (.plain (OpenSpec.ofChange fnExactReqScanSpec)) fnExactReqScanCard

/-- THE TIED CARD OF 'laws.FnExactEvScan'. -/
def fnExactEvScanCard : Claim7 := { stood := { row := fnExactEvScanRow, standIns := [], harness := (true, "812b4824b4b3e22ed9b5df68f5ba66de9056f49d0411c9d6bf1afdbac38f8412"), looks := true }, kinds := [], alts := [], laidByText := true, laidKinds := [.data, .data, .data, .data, .sentinel, .sentinel, .pinned], laidTests := true, laidLooks := .later }
def FnExactEvScanCardSaid : Prop := Claim7.holds Tryd.pinned (.plain (OpenSpec.ofChange fnExactEvScanSpec)) fnExactEvScanCard

/-- THE SECOND FORM's CARD OF 'laws.FnReqWords'. -/
def fnReqWordsUptoCard : Claim7 := { stood := { row := fnReqWordsUptoRow, standIns := [], harness := (true, "812b4824b4b3e22ed9b5df68f5ba66de9056f49d0411c9d6bf1afdbac38f8412"), looks := true }, kinds := [], alts := [], laidByText := true, laidKinds := [.data, .data, .data], laidTests := true, laidLooks := .later }
def FnReqWordsUptoCardSaid : Prop := Claim7.holds Tryd.pinned (.plain (OpenSpec.upto fnReqWordsSpec)) fnReqWordsUptoCard

/-- THE SECOND FORM's CARD OF 'laws.FnReqRight'. -/
def fnReqRightUptoCard : Claim7 := { stood := { row := fnReqRightUptoRow, standIns := [], harness := (true, "812b4824b4b3e22ed9b5df68f5ba66de9056f49d0411c9d6bf1afdbac38f8412"), looks := true }, kinds := [], alts := [], laidByText := true, laidKinds := [.data, .data, .data], laidTests := true, laidLooks := .later }
def FnReqRightUptoCardSaid : Prop := Claim7.holds Tryd.pinned (.plain (OpenSpec.upto fnReqRightSpec)) fnReqRightUptoCard

/-- THE SECOND FORM's CARD OF 'laws.FnEvWords'. -/
def fnEvWordsUptoCard : Claim7 := { stood := { row := fnEvWordsUptoRow, standIns := [], harness := (true, "812b4824b4b3e22ed9b5df68f5ba66de9056f49d0411c9d6bf1afdbac38f8412"), looks := true }, kinds := [], alts := [], laidByText := true, laidKinds := [.data, .data, .data], laidTests := true, laidLooks := .later }
def FnEvWordsUptoCardSaid : Prop := Claim7.holds Tryd.pinned (.plain (OpenSpec.upto fnEvWordsSpec)) fnEvWordsUptoCard

/-- THE SECOND FORM's CARD OF 'laws.FnExactEvText'. -/
def fnExactEvTextUptoCard : Claim7 := { stood := { row := fnExactEvTextUptoRow, standIns := [], harness := (true, "812b4824b4b3e22ed9b5df68f5ba66de9056f49d0411c9d6bf1afdbac38f8412"), looks := true }, kinds := [], alts := [], laidByText := true, laidKinds := [.data, .data, .data], laidTests := true, laidLooks := .later }
def FnExactEvTextUptoCardSaid : Prop := Claim7.holds Tryd.pinned (.plain (OpenSpec.upto fnExactEvTextSpec)) fnExactEvTextUptoCard

/-- THE SECOND FORM's CARD OF 'laws.FnExactReqScan'. -/
def fnExactReqScanUptoCard : Claim7 := { stood := { row := fnExactReqScanUptoRow, standIns := [], harness := (true, "812b4824b4b3e22ed9b5df68f5ba66de9056f49d0411c9d6bf1afdbac38f8412"), looks := true }, kinds := [], alts := [], laidByText := true, laidKinds := [.data, .data, .data, .data, .sentinel, .sentinel, .pinned], laidTests := true, laidLooks := .later }
def FnExactReqScanUptoCardSaid : Prop := Claim7.holds Tryd.pinned (.plain (OpenSpec.upto fnExactReqScanSpec)) fnExactReqScanUptoCard

/-- THE SECOND FORM's CARD OF 'laws.FnExactEvScan'. -/
def fnExactEvScanUptoCard : Claim7 := { stood := { row := fnExactEvScanUptoRow, standIns := [], harness := (true, "812b4824b4b3e22ed9b5df68f5ba66de9056f49d0411c9d6bf1afdbac38f8412"), looks := true }, kinds := [], alts := [], laidByText := true, laidKinds := [.data, .data, .data, .data, .sentinel, .sentinel, .pinned], laidTests := true, laidLooks := .later }
def FnExactEvScanUptoCardSaid : Prop := Claim7.holds Tryd.pinned (.plain (OpenSpec.upto fnExactEvScanSpec)) fnExactEvScanUptoCard
end Rows
end Go.Proofs.YtndikjcpmhfdhaaDoor
