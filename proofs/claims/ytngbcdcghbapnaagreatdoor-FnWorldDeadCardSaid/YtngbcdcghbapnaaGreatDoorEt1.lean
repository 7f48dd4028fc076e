/- What every row of the seat asks of the program alone. No condition. -/
import Derived.Test.YtngbcdcghbapnaaGreatDoorRows
import Derived.WalkKit
import Derived.ProofKit
import Derived.SevenTiedAt
namespace Go.Proofs.YtngbcdcghbapnaaGreatDoor.PF
open Go.ChangeShapes Go.WideShapes Go.ChangeAt Go.RowKit
set_option maxRecDepth 100000
theorem and_mk {a b : Bool} (ha : a = true) (hb : b = true) : (a && b) = true := by rw [ha, hb]; rfl
theorem pf1 : laidOutB Tryz.checked.prog = true := by kernel_rfl
theorem pf2 : mapsRowed Tryz.checked.prog = true := by kernel_rfl
theorem pf6 : (Tryz.checked.prog.stops == []) = true := by kernel_rfl
theorem pf8 : (Tryz.checked.prog.stopKnobs == []) = true := by kernel_rfl
theorem pf24 : Tryz.checked.prog.stopsHeard = true := by kernel_rfl
theorem pf25 : Tryz.checked.prog.mayEnter = true := by kernel_rfl
theorem pf22 : Tryz.checked.prog.plainKeys = Go.Proofs.YtngbcdcghbapnaaGreatDoor.Rows.fnWorldStillRow.plainKeys := by kernel_rfl
theorem pf26 : Tryz.checked.prog.liftsFinal = Go.Proofs.YtngbcdcghbapnaaGreatDoor.Rows.fnWorldStillRow.lifted := by kernel_rfl
theorem pf27 : Tryz.checked.prog.make = some Go.Proofs.YtngbcdcghbapnaaGreatDoor.Rows.fnWorldStillRow.make := by kernel_rfl
end Go.Proofs.YtngbcdcghbapnaaGreatDoor.PF
