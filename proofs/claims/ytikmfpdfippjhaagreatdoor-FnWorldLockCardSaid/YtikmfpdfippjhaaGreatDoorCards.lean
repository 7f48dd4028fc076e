/-
  DERIVED. GIVEN WITH THE SEED: THE CARDS: each row of YtikmfpdfippjhaaGreatDoorRows.lean that lists a variable, with what it lists TIED to the program's text (the seventh form; the later family's looks); each row that meets fmt, with fmt's text TOLD by the authors' own Lean function (tested against real Go, not proved from fmt's source: count such statements apart). THE CARD IS WHAT COUNTS. Prove the row's statement (the work); the ties are given (YtikmfpdfippjhaaGreatDoorTie.lean); close each card by the builder's one call (the guide's Derived/Test/ToyasCard.lean, 'card_holds'). Laid BY PROGRAM, IN A SANDBOX (cutbox-door.mjs). By AI agents, Wed Nov 11 2026. No macro, syntax, notation, axiom, sorry.
-/
import Derived.Test.YtikmfpdfippjhaaGreatDoorRows
import GoSem.ClaimSeven
namespace Go.Proofs.YtikmfpdfippjhaaGreatDoor
namespace Rows

/-- THE TIED CARD OF 'laws.FnWorldRead'. -/
def fnWorldReadCard : Claim7 := { stood := { row := fnWorldReadRow, standIns := [], harness := (true, "4f05b7fcfe9ff7c1f161c458d0cc8ff303c63a41fe963cf5e905d21261b144a3"), looks := false }, kinds := [], alts := [], laidByText := true, laidKinds := [.data], laidTests := true, laidLooks := .later }
def FnWorldReadCardSaid : Prop := Claim7.holds Tryz.pinned (.plain (OpenSpec.ofChange fnWorldReadSpec)) fnWorldReadCard

/-- THE TIED CARD OF 'laws.FnWorldWrite'. -/
def fnWorldWriteCard : Claim7 := { stood := { row := fnWorldWriteRow, standIns := [], harness := (true, "4f05b7fcfe9ff7c1f161c458d0cc8ff303c63a41fe963cf5e905d21261b144a3"), looks := false }, kinds := [], alts := [], laidByText := true, laidKinds := [.data], laidTests := true, laidLooks := .later }
def FnWorldWriteCardSaid : Prop := Claim7.holds Tryz.pinned (.plain (OpenSpec.ofChange fnWorldWriteSpec)) fnWorldWriteCard

/-- THE TIED CARD OF 'laws.FnWorldFlush'. -/
def fnWorldFlushCard : Claim7 := { stood := { row := fnWorldFlushRow, standIns := [], harness := (true, "4f05b7fcfe9ff7c1f161c458d0cc8ff303c63a41fe963cf5e905d21261b144a3"), looks := false }, kinds := [], alts := [], laidByText := true, laidKinds := [.data], laidTests := true, laidLooks := .later }
def FnWorldFlushCardSaid : Prop := Claim7.holds Tryz.pinned (.plain (OpenSpec.ofChange fnWorldFlushSpec)) fnWorldFlushCard

/-- THE TIED CARD OF 'laws.FnWorldLock'. -/
def fnWorldLockCard : Claim7 := { stood := { row := fnWorldLockRow, standIns := [], harness := (true, "4f05b7fcfe9ff7c1f161c458d0cc8ff303c63a41fe963cf5e905d21261b144a3"), looks := false }, kinds := [], alts := [], laidByText := true, laidKinds := [.data], laidTests := true, laidLooks := .later }
def FnWorldLockCardSaid : Prop := Claim7.holds Tryz.pinned (.plain (OpenSpec.ofChange fnWorldLockSpec)) fnWorldLockCard

/-- THE TIED CARD OF 'laws.FnWorldHeld'. -/
def fnWorldHeldCard : Claim7 := { stood := { row := fnWorldHeldRow, standIns := [], harness := (true, "4f05b7fcfe9ff7c1f161c458d0cc8ff303c63a41fe963cf5e905d21261b144a3"), looks := false }, kinds := [], alts := [], laidByText := true, laidKinds := [.data], laidTests := true, laidLooks := .later }
def FnWorldHeldCardSaid : Prop := Claim7.holds Tryz.pinned (.plain (OpenSpec.ofChange fnWorldHeldSpec)) fnWorldHeldCard

/-- THE TIED CARD OF 'laws.FnWorldTwo'. -/
def fnWorldTwoCard : Claim7 := { stood := { row := fnWorldTwoRow, standIns := [], harness := (true, "4f05b7fcfe9ff7c1f161c458d0cc8ff303c63a41fe963cf5e905d21261b144a3"), looks := false }, kinds := [], alts := [], laidByText := true, laidKinds := [.data], laidTests := true, laidLooks := .later }
def FnWorldTwoCardSaid : Prop := Claim7.holds Tryz.pinned (.plain (OpenSpec.ofChange fnWorldTwoSpec)) fnWorldTwoCard

/-- THE TIED CARD OF 'laws.FnWorldLost'. -/
def fnWorldLostCard : Claim7 := { stood := { row := fnWorldLostRow, standIns := [], harness := (true, "4f05b7fcfe9ff7c1f161c458d0cc8ff303c63a41fe963cf5e905d21261b144a3"), looks := false }, kinds := [], alts := [], laidByText := true, laidKinds := [.data], laidTests := true, laidLooks := .later }
def FnWorldLostCardSaid : Prop := Claim7.holds Tryz.pinned (.plain (OpenSpec.ofChange fnWorldLostSpec)) fnWorldLostCard

/-- THE SECOND FORM's CARD OF 'laws.FnWorldRead'. -/
def fnWorldReadUptoCard : Claim7 := { stood := { row := fnWorldReadUptoRow, standIns := [], harness := (true, "4f05b7fcfe9ff7c1f161c458d0cc8ff303c63a41fe963cf5e905d21261b144a3"), looks := false }, kinds := [], alts := [], laidByText := true, laidKinds := [.data], laidTests := true, laidLooks := .later }
def FnWorldReadUptoCardSaid : Prop := Claim7.holds Tryz.pinned (.plain (OpenSpec.upto fnWorldReadSpec)) fnWorldReadUptoCard

/-- THE SECOND FORM's CARD OF 'laws.FnWorldWrite'. -/
def fnWorldWriteUptoCard : Claim7 := { stood := { row := fnWorldWriteUptoRow, standIns := [], harness := (true, "4f05b7fcfe9ff7c1f161c458d0cc8ff303c63a41fe963cf5e905d21261b144a3"), looks := false }, kinds := [], alts := [], laidByText := true, laidKinds := [.data], laidTests := true, laidLooks := .later }
def FnWorldWriteUptoCardSaid : Prop := Claim7.holds Tryz.pinned (.plain (OpenSpec.upto fnWorldWriteSpec)) fnWorldWriteUptoCard

/-- THE SECOND FORM's CARD OF 'laws.FnWorldFlush'. -/
def fnWorldFlushUptoCard : Claim7 := { stood := { row := fnWorldFlushUptoRow, standIns := [], harness := (true, "4f05b7fcfe9ff7c1f161c458d0cc8ff303c63a41fe963cf5e905d21261b144a3"), looks := false }, kinds := [], alts := [], laidByText := true, laidKinds := [.data], laidTests := true, laidLooks := .later }
def FnWorldFlushUptoCardSaid : Prop := Claim7.holds Tryz.pinned (.plain (OpenSpec.upto fnWorldFlushSpec)) fnWorldFlushUptoCard

/-- THE SECOND FORM's CARD OF 'laws.FnWorldLock'. -/
def fnWorldLockUptoCard : Claim7 := { stood := { row := fnWorldLockUptoRow, standIns := [], harness := (true, "4f05b7fcfe9ff7c1f161c458d0cc8ff303c63a41fe963cf5e905d21261b144a3"), looks := false }, kinds := [], alts := [], laidByText := true, laidKinds := [.data], laidTests := true, laidLooks := .later }
def FnWorldLockUptoCardSaid : Prop := Claim7.holds Tryz.pinned (.plain (OpenSpec.upto fnWorldLockSpec)) fnWorldLockUptoCard

/-- THE SECOND FORM's CARD OF 'laws.FnWorldHeld'. -/
def fnWorldHeldUptoCard : Claim7 := { stood := { row := fnWorldHeldUptoRow, standIns := [], harness := (true, "4f05b7fcfe9ff7c1f161c458d0cc8ff303c63a41fe963cf5e905d21261b144a3"), looks := false }, kinds := [], alts := [], laidByText := true, laidKinds := [.data], laidTests := true, laidLooks := .later }
def FnWorldHeldUptoCardSaid : Prop := Claim7.holds Tryz.pinned (.plain (OpenSpec.upto fnWorldHeldSpec)) fnWorldHeldUptoCard

/-- THE SECOND FORM's CARD OF 'laws.FnWorldTwo'. -/
def fnWorldTwoUptoCard : Claim7 := { stood := { row := fnWorldTwoUptoRow, standIns := [], harness := (true, "4f05b7fcfe9ff7c1f161c458d0cc8ff303c63a41fe963cf5e905d21261b144a3"), looks := false }, kinds := [], alts := [], laidByText := true, laidKinds := [.data], laidTests := true, laidLooks := .later }
def FnWorldTwoUptoCardSaid : Prop := Claim7.holds Tryz.pinned (.plain (OpenSpec.upto fnWorldTwoSpec)) fnWorldTwoUptoCard

/-- THE SECOND FORM's CARD OF 'laws.FnWorldLost'. -/
def fnWorldLostUptoCard : Claim7 := { stood := { row := fnWorldLostUptoRow, standIns := [], harness := (true, "4f05b7fcfe9ff7c1f161c458d0cc8ff303c63a41fe963cf5e905d21261b144a3"), looks := false }, kinds := [], alts := [], laidByText := true, laidKinds := [.data], laidTests := true, laidLooks := .later }
def FnWorldLostUptoCardSaid : Prop := Claim7.holds Tryz.pinned (.plain (OpenSpec.upto fnWorldLostSpec)) fnWorldLostUptoCard
end Rows
end Go.Proofs.YtikmfpdfippjhaaGreatDoor
