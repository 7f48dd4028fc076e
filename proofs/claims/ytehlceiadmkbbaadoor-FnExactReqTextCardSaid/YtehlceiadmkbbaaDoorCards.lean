/-
  DERIVED. GIVEN WITH THE SEED: THE CARDS: each row of YtehlceiadmkbbaaDoorRows.lean that lists a variable, with what it lists TIED to the program's text (the seventh form; the later family's looks); each row that meets fmt, with fmt's text TOLD by the authors' own Lean function (tested against real Go, not proved from fmt's source: count such statements apart). THE CARD IS WHAT COUNTS. Prove the row's statement (the work); the ties are given (YtehlceiadmkbbaaDoorTie.lean); close each card by the builder's one call (the guide's Derived/Test/ToyasCard.lean, 'card_holds'). Laid BY PROGRAM, IN A SANDBOX (cutbox-door.mjs). By AI agents, Wed Nov 11 2026. No macro, syntax, notation, axiom, sorry.
-/
import Derived.Test.YtehlceiadmkbbaaDoorRows
import GoSem.ClaimSeven
namespace Go.Proofs.YtehlceiadmkbbaaDoor
namespace Rows

/-- THE TIED CARD OF 'laws.FnExactReqText'. -/
def fnExactReqTextCard : Claim7 := { stood := { row := fnExactReqTextRow, standIns := [], harness := (true, "608bb66a4a8384fa827232fdf3fd23cc967fa8bed0a62089450c0b6d3e01b1a9"), looks := false }, kinds := [], alts := [], laidByText := true, laidKinds := [.data, .data, .data], laidTests := true, laidLooks := .later }
def FnExactReqTextCardSaid : Prop := Claim7.holds Tryd.pinned (.plain (OpenSpec.ofChange fnExactReqTextSpec)) fnExactReqTextCard

/-- THE SECOND FORM's CARD OF 'laws.FnExactReqText'. -/
def fnExactReqTextUptoCard : Claim7 := { stood := { row := fnExactReqTextUptoRow, standIns := [], harness := (true, "608bb66a4a8384fa827232fdf3fd23cc967fa8bed0a62089450c0b6d3e01b1a9"), looks := false }, kinds := [], alts := [], laidByText := true, laidKinds := [.data, .data, .data], laidTests := true, laidLooks := .later }
def FnExactReqTextUptoCardSaid : Prop := Claim7.holds Tryd.pinned (.plain (OpenSpec.upto fnExactReqTextSpec)) fnExactReqTextUptoCard
end Rows
end Go.Proofs.YtehlceiadmkbbaaDoor
