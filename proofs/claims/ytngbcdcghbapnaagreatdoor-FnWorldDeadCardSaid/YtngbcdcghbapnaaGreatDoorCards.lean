/-
  DERIVED. GIVEN WITH THE SEED: THE CARDS: each row of YtngbcdcghbapnaaGreatDoorRows.lean that lists a variable, with what it lists TIED to the program's text (the seventh form; the later family's looks); each row that meets fmt, with fmt's text TOLD by the authors' own Lean function (tested against real Go, not proved from fmt's source: count such statements apart). THE CARD IS WHAT COUNTS. Prove the row's statement (the work); the ties are given (YtngbcdcghbapnaaGreatDoorTie.lean); close each card by the builder's one call (the guide's Derived/Test/ToyasCard.lean, 'card_holds'). Laid BY PROGRAM, IN A SANDBOX (cutbox-door.mjs). By AI agents, Wed Nov 11 2026. No macro, syntax, notation, axiom, sorry.
-/
import Derived.Test.YtngbcdcghbapnaaGreatDoorRows
import GoSem.ClaimSeven
namespace Go.Proofs.YtngbcdcghbapnaaGreatDoor
namespace Rows

/-- THE TIED CARD OF 'laws.FnWorldHeld'. -/
def fnWorldHeldCard : Claim7 := { stood := { row := fnWorldHeldRow, standIns := [], harness := (true, "d094d4dd20c49a1b65c362dfa0ac1ab0eea206e3ccc3a5c6722c0ffef983a820"), looks := false }, kinds := [], alts := [], laidByText := true, laidKinds := [.data], laidTests := true, laidLooks := .later }
def FnWorldHeldCardSaid : Prop := Claim7.holds Tryz.pinned (.plain (OpenSpec.ofChange fnWorldHeldSpec)) fnWorldHeldCard

/-- THE TIED CARD OF 'laws.FnWorldFall'. -/
def fnWorldFallCard : Claim7 := { stood := { row := fnWorldFallRow, standIns := [], harness := (true, "d094d4dd20c49a1b65c362dfa0ac1ab0eea206e3ccc3a5c6722c0ffef983a820"), looks := false }, kinds := [], alts := [], laidByText := true, laidKinds := [.data], laidTests := true, laidLooks := .later }
def FnWorldFallCardSaid : Prop := Claim7.holds Tryz.pinned (.plain (OpenSpec.ofChange fnWorldFallSpec)) fnWorldFallCard

/-- THE TIED CARD OF 'laws.FnWorldFile'. -/
def fnWorldFileCard : Claim7 := { stood := { row := fnWorldFileRow, standIns := [], harness := (true, "d094d4dd20c49a1b65c362dfa0ac1ab0eea206e3ccc3a5c6722c0ffef983a820"), looks := false }, kinds := [], alts := [], laidByText := true, laidKinds := [.data], laidTests := true, laidLooks := .later }
def FnWorldFileCardSaid : Prop := Claim7.holds Tryz.pinned (.plain (OpenSpec.ofChange fnWorldFileSpec)) fnWorldFileCard

/-- THE TIED CARD OF 'laws.FnWorldSure'. -/
def fnWorldSureCard : Claim7 := { stood := { row := fnWorldSureRow, standIns := [], harness := (true, "d094d4dd20c49a1b65c362dfa0ac1ab0eea206e3ccc3a5c6722c0ffef983a820"), looks := false }, kinds := [], alts := [], laidByText := true, laidKinds := [.data], laidTests := true, laidLooks := .later }
def FnWorldSureCardSaid : Prop := Claim7.holds Tryz.pinned (.plain (OpenSpec.ofChange fnWorldSureSpec)) fnWorldSureCard

/-- THE TIED CARD OF 'laws.FnWorldBent'. -/
def fnWorldBentCard : Claim7 := { stood := { row := fnWorldBentRow, standIns := [], harness := (true, "d094d4dd20c49a1b65c362dfa0ac1ab0eea206e3ccc3a5c6722c0ffef983a820"), looks := false }, kinds := [], alts := [], laidByText := true, laidKinds := [.data], laidTests := true, laidLooks := .later }
def FnWorldBentCardSaid : Prop := Claim7.holds Tryz.pinned (.plain (OpenSpec.ofChange fnWorldBentSpec)) fnWorldBentCard

/-- THE TIED CARD OF 'laws.FnWorldSame'. -/
def fnWorldSameCard : Claim7 := { stood := { row := fnWorldSameRow, standIns := [], harness := (true, "d094d4dd20c49a1b65c362dfa0ac1ab0eea206e3ccc3a5c6722c0ffef983a820"), looks := false }, kinds := [], alts := [], laidByText := true, laidKinds := [.data], laidTests := true, laidLooks := .later }
def FnWorldSameCardSaid : Prop := Claim7.holds Tryz.pinned (.plain (OpenSpec.ofChange fnWorldSameSpec)) fnWorldSameCard

/-- THE TIED CARD OF 'laws.FnWorldOk'. -/
def fnWorldOkCard : Claim7 := { stood := { row := fnWorldOkRow, standIns := [], harness := (true, "d094d4dd20c49a1b65c362dfa0ac1ab0eea206e3ccc3a5c6722c0ffef983a820"), looks := false }, kinds := [], alts := [], laidByText := true, laidKinds := [.data], laidTests := true, laidLooks := .later }
def FnWorldOkCardSaid : Prop := Claim7.holds Tryz.pinned (.plain (OpenSpec.ofChange fnWorldOkSpec)) fnWorldOkCard

/-- THE TIED CARD OF 'laws.FnWorldStill'. -/
def fnWorldStillCard : Claim7 := { stood := { row := fnWorldStillRow, standIns := [], harness := (true, "d094d4dd20c49a1b65c362dfa0ac1ab0eea206e3ccc3a5c6722c0ffef983a820"), looks := false }, kinds := [], alts := [], laidByText := true, laidKinds := [.data], laidTests := true, laidLooks := .later }
def FnWorldStillCardSaid : Prop := Claim7.holds Tryz.pinned (.plain (OpenSpec.ofChange fnWorldStillSpec)) fnWorldStillCard

/-- THE TIED CARD OF 'laws.FnWorldDead'. -/
def fnWorldDeadCard : Claim7 := { stood := { row := fnWorldDeadRow, standIns := [], harness := (true, "d094d4dd20c49a1b65c362dfa0ac1ab0eea206e3ccc3a5c6722c0ffef983a820"), looks := false }, kinds := [], alts := [], laidByText := true, laidKinds := [.data], laidTests := true, laidLooks := .later }
def FnWorldDeadCardSaid : Prop := Claim7.holds Tryz.pinned (.plain (OpenSpec.ofChange fnWorldDeadSpec)) fnWorldDeadCard

/-- THE TIED CARD OF 'laws.FnWorldLate'. -/
def fnWorldLateCard : Claim7 := { stood := { row := fnWorldLateRow, standIns := [], harness := (true, "d094d4dd20c49a1b65c362dfa0ac1ab0eea206e3ccc3a5c6722c0ffef983a820"), looks := false }, kinds := [], alts := [], laidByText := true, laidKinds := [.data], laidTests := true, laidLooks := .later }
def FnWorldLateCardSaid : Prop := Claim7.holds Tryz.pinned (.plain (OpenSpec.ofChange fnWorldLateSpec)) fnWorldLateCard

/-- THE TIED CARD OF 'laws.FnExactWorldText'. -/
def fnExactWorldTextCard : Claim7 := { stood := { row := fnExactWorldTextRow, standIns := [], harness := (true, "d094d4dd20c49a1b65c362dfa0ac1ab0eea206e3ccc3a5c6722c0ffef983a820"), looks := false }, kinds := [], alts := [], laidByText := true, laidKinds := [.data], laidTests := true, laidLooks := .later }
def FnExactWorldTextCardSaid : Prop := Claim7.holds Tryz.pinned (.plain (OpenSpec.ofChange fnExactWorldTextSpec)) fnExactWorldTextCard

/-- THE TIED CARD OF 'laws.FnWorldFlat'. -/
def fnWorldFlatCard : Claim7 := { stood := { row := fnWorldFlatRow, standIns := [], harness := (true, "d094d4dd20c49a1b65c362dfa0ac1ab0eea206e3ccc3a5c6722c0ffef983a820"), looks := false }, kinds := [], alts := [], laidByText := true, laidKinds := [.data], laidTests := true, laidLooks := .later }
def FnWorldFlatCardSaid : Prop := Claim7.holds Tryz.pinned (.plain (OpenSpec.ofChange fnWorldFlatSpec)) fnWorldFlatCard

/-- THE SECOND FORM's CARD OF 'laws.FnWorldHeld'. -/
def fnWorldHeldUptoCard : Claim7 := { stood := { row := fnWorldHeldUptoRow, standIns := [], harness := (true, "d094d4dd20c49a1b65c362dfa0ac1ab0eea206e3ccc3a5c6722c0ffef983a820"), looks := false }, kinds := [], alts := [], laidByText := true, laidKinds := [.data], laidTests := true, laidLooks := .later }
def FnWorldHeldUptoCardSaid : Prop := Claim7.holds Tryz.pinned (.plain (OpenSpec.upto fnWorldHeldSpec)) fnWorldHeldUptoCard

/-- THE SECOND FORM's CARD OF 'laws.FnWorldFall'. -/
def fnWorldFallUptoCard : Claim7 := { stood := { row := fnWorldFallUptoRow, standIns := [], harness := (true, "d094d4dd20c49a1b65c362dfa0ac1ab0eea206e3ccc3a5c6722c0ffef983a820"), looks := false }, kinds := [], alts := [], laidByText := true, laidKinds := [.data], laidTests := true, laidLooks := .later }
def FnWorldFallUptoCardSaid : Prop := Claim7.holds Tryz.pinned (.plain (OpenSpec.upto fnWorldFallSpec)) fnWorldFallUptoCard

/-- THE SECOND FORM's CARD OF 'laws.FnWorldFile'. -/
def fnWorldFileUptoCard : Claim7 := { stood := { row := fnWorldFileUptoRow, standIns := [], harness := (true, "d094d4dd20c49a1b65c362dfa0ac1ab0eea206e3ccc3a5c6722c0ffef983a820"), looks := false }, kinds := [], alts := [], laidByText := true, laidKinds := [.data], laidTests := true, laidLooks := .later }
def FnWorldFileUptoCardSaid : Prop := Claim7.holds Tryz.pinned (.plain (OpenSpec.upto fnWorldFileSpec)) fnWorldFileUptoCard

/-- THE SECOND FORM's CARD OF 'laws.FnWorldSure'. -/
def fnWorldSureUptoCard : Claim7 := { stood := { row := fnWorldSureUptoRow, standIns := [], harness := (true, "d094d4dd20c49a1b65c362dfa0ac1ab0eea206e3ccc3a5c6722c0ffef983a820"), looks := false }, kinds := [], alts := [], laidByText := true, laidKinds := [.data], laidTests := true, laidLooks := .later }
def FnWorldSureUptoCardSaid : Prop := Claim7.holds Tryz.pinned (.plain (OpenSpec.upto fnWorldSureSpec)) fnWorldSureUptoCard

/-- THE SECOND FORM's CARD OF 'laws.FnWorldBent'. -/
def fnWorldBentUptoCard : Claim7 := { stood := { row := fnWorldBentUptoRow, standIns := [], harness := (true, "d094d4dd20c49a1b65c362dfa0ac1ab0eea206e3ccc3a5c6722c0ffef983a820"), looks := false }, kinds := [], alts := [], laidByText := true, laidKinds := [.data], laidTests := true, laidLooks := .later }
def FnWorldBentUptoCardSaid : Prop := Claim7.holds Tryz.pinned (.plain (OpenSpec.upto fnWorldBentSpec)) fnWorldBentUptoCard

/-- THE SECOND FORM's CARD OF 'laws.FnWorldSame'. -/
def fnWorldSameUptoCard : Claim7 := { stood := { row := fnWorldSameUptoRow, standIns := [], harness := (true, "d094d4dd20c49a1b65c362dfa0ac1ab0eea206e3ccc3a5c6722c0ffef983a820"), looks := false }, kinds := [], alts := [], laidByText := true, laidKinds := [.data], laidTests := true, laidLooks := .later }
def FnWorldSameUptoCardSaid : Prop := Claim7.holds Tryz.pinned (.plain (OpenSpec.upto fnWorldSameSpec)) fnWorldSameUptoCard

/-- THE SECOND FORM's CARD OF 'laws.FnWorldOk'. -/
def fnWorldOkUptoCard : Claim7 := { stood := { row := fnWorldOkUptoRow, standIns := [], harness := (true, "d094d4dd20c49a1b65c362dfa0ac1ab0eea206e3ccc3a5c6722c0ffef983a820"), looks := false }, kinds := [], alts := [], laidByText := true, laidKinds := [.data], laidTests := true, laidLooks := .later }
def FnWorldOkUptoCardSaid : Prop := Claim7.holds Tryz.pinned (.plain (OpenSpec.upto fnWorldOkSpec)) fnWorldOkUptoCard

/-- THE SECOND FORM's CARD OF 'laws.FnWorldStill'. -/
def fnWorldStillUptoCard : Claim7 := { stood := { row := fnWorldStillUptoRow, standIns := [], harness := (true, "d094d4dd20c49a1b65c362dfa0ac1ab0eea206e3ccc3a5c6722c0ffef983a820"), looks := false }, kinds := [], alts := [], laidByText := true, laidKinds := [.data], laidTests := true, laidLooks := .later }
def FnWorldStillUptoCardSaid : Prop := Claim7.holds Tryz.pinned (.plain (OpenSpec.upto fnWorldStillSpec)) fnWorldStillUptoCard

/-- THE SECOND FORM's CARD OF 'laws.FnWorldDead'. -/
def fnWorldDeadUptoCard : Claim7 := { stood := { row := fnWorldDeadUptoRow, standIns := [], harness := (true, "d094d4dd20c49a1b65c362dfa0ac1ab0eea206e3ccc3a5c6722c0ffef983a820"), looks := false }, kinds := [], alts := [], laidByText := true, laidKinds := [.data], laidTests := true, laidLooks := .later }
def FnWorldDeadUptoCardSaid : Prop := Claim7.holds Tryz.pinned (.plain (OpenSpec.upto fnWorldDeadSpec)) fnWorldDeadUptoCard

/-- THE SECOND FORM's CARD OF 'laws.FnWorldLate'. -/
def fnWorldLateUptoCard : Claim7 := { stood := { row := fnWorldLateUptoRow, standIns := [], harness := (true, "d094d4dd20c49a1b65c362dfa0ac1ab0eea206e3ccc3a5c6722c0ffef983a820"), looks := false }, kinds := [], alts := [], laidByText := true, laidKinds := [.data], laidTests := true, laidLooks := .later }
def FnWorldLateUptoCardSaid : Prop := Claim7.holds Tryz.pinned (.plain (OpenSpec.upto fnWorldLateSpec)) fnWorldLateUptoCard

/-- THE SECOND FORM's CARD OF 'laws.FnExactWorldText'. -/
def fnExactWorldTextUptoCard : Claim7 := { stood := { row := fnExactWorldTextUptoRow, standIns := [], harness := (true, "d094d4dd20c49a1b65c362dfa0ac1ab0eea206e3ccc3a5c6722c0ffef983a820"), looks := false }, kinds := [], alts := [], laidByText := true, laidKinds := [.data], laidTests := true, laidLooks := .later }
def FnExactWorldTextUptoCardSaid : Prop := Claim7.holds Tryz.pinned (.plain (OpenSpec.upto fnExactWorldTextSpec)) fnExactWorldTextUptoCard

/-- THE SECOND FORM's CARD OF 'laws.FnWorldFlat'. -/
def fnWorldFlatUptoCard : Claim7 := { stood := { row := fnWorldFlatUptoRow, standIns := [], harness := (true, "d094d4dd20c49a1b65c362dfa0ac1ab0eea206e3ccc3a5c6722c0ffef983a820"), looks := false }, kinds := [], alts := [], laidByText := true, laidKinds := [.data], laidTests := true, laidLooks := .later }
def FnWorldFlatUptoCardSaid : Prop := Claim7.holds Tryz.pinned (.plain (OpenSpec.upto fnWorldFlatSpec)) fnWorldFlatUptoCard
end Rows
end Go.Proofs.YtngbcdcghbapnaaGreatDoor
