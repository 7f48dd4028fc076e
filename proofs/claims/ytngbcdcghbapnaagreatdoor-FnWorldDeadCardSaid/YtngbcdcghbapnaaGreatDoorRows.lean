/-
  NARROWER THAN 'FOR EVERY INPUT', by the rows' own cells (each row's printed sentence says how): FnWorldHeld: laid · FnWorldFall: laid · FnWorldFile: laid · FnWorldSure: laid · FnWorldBent: laid · FnWorldSame: laid · FnWorldOk: laid · FnWorldStill: laid · FnWorldDead: laid · FnWorldLate: laid · FnExactWorldText: laid · FnWorldFlat: laid.
  DERIVED. THE GIVEN ROWS OF THIS SEAT. 12 by the template 'for every input the law returns true; each argument reads behind the call as it read before'; 0 by the template 'total and deterministic' (their statements: YtngbcdcghbapnaaGreatDoorTotals.lean).
  GIVEN WITH THE SEED: the statements are not yours to turn. If you find one false, say at which input.
  Laid BY PROGRAM, IN A SANDBOX (cutbox-rows.mjs): the forced cells as the released guide's own fill.sh prints them over the translation 49111d6c666f8c84… (all of the seat's roots in one cut). By AI agents, Wed Nov 11 2026. No macro, syntax, notation, axiom, sorry.
-/
import Derived.Test.YtngbcdcghbapnaaGreatDoorChecked
import GoSem.Claim
import GoSem.ClaimJoined
import GoSem.ClaimMapViews
import Derived.JoinedTies
import Derived.KernelRfl
namespace Go.Proofs.YtngbcdcghbapnaaGreatDoor
/- THE CELL 'sum', in the pinned program and in every row, IS THE sha256 OF THE DUMP (.gsa) THAT YtngbcdcghbapnaaGreatDoorProg.lean LOADS. Nothing in Lean hashes anything: it is a label: what it is worth is what the hold of that sum in a sandbox is worth. -/
noncomputable def Tryz.pinned : Pinned := { name := "ytngbcdcghbapnaagreatdoor", sum := "49111d6c666f8c843ae5dfb695a30d7146914ba36d4ddc578ea6c3c401882b47", checked := Tryz.checked }
namespace Rows
def none {H : Type} : Left H := { results := [], args := [] }

/- WHAT THE LISTED PACKAGE-LEVEL VARIABLES READ AS WHEN THE CALL BEGINS. Each datum BY PROGRAM (the guide's laid-datum.mjs) off the statement by which the dump's own 'gosem.cut.vars' lays the variable. In a bare row this is a premise. The card (YtngbcdcghbapnaaGreatDoorCards.lean) ties it to the program's text. -/
def laid_loop_example_pannage_impl_whole {H : Type} : DataW H := .agg [.lit (.int .i64 0), .lit (.int .i64 48)]

/-- 'laws.FnWorldHeld': WHATEVER THE INPUT: true; the input reads as it did. -/
def fnWorldHeldSpec : ChangeSpec := { name := "fnWorldHeld", vars := ["loop.example/pannage/impl.whole"], fn := fun _ => fun
  | [d, g1] => { results := [.lit (.bool true)], args := [d], vars := [g1] }
  | _ => none }
def fnWorldHeldRow : OpenClaim := { program := "ytngbcdcghbapnaagreatdoor", sum := "49111d6c666f8c843ae5dfb695a30d7146914ba36d4ddc578ea6c3c401882b47", func := "loop.example/pannage/laws.FnWorldHeld", spec := "fnWorldHeld", inPlace := ["internal/abi.NoEscape", "internal/bytealg.MakeNoZero"], unfollowed := true, recurses := true, named := ["loop.example/pannage/impl.whole"], apart := false, laid := [("loop.example/pannage/impl.whole", laid_loop_example_pannage_impl_whole)] }
def FnWorldHeldSaid : Prop := fnWorldHeldRow.holds Tryz.pinned (OpenSpec.ofChange fnWorldHeldSpec)

/-- ITS FALSE NEIGHBOUR: 'it returns false'. Refute it at one input. -/
def fnWorldHeldWrong : ChangeSpec := { name := "fnWorldHeld", vars := ["loop.example/pannage/impl.whole"], fn := fun _ => fun
  | [d, g1] => { results := [.lit (.bool false)], args := [d], vars := [g1] }
  | _ => none }
def FnWorldHeldWrongFalsely : Prop := fnWorldHeldRow.holds Tryz.pinned (OpenSpec.ofChange fnWorldHeldWrong)

/-- 'laws.FnWorldFall': WHATEVER THE INPUT: true; the input reads as it did. -/
def fnWorldFallSpec : ChangeSpec := { name := "fnWorldFall", vars := ["loop.example/pannage/impl.whole"], fn := fun _ => fun
  | [d, g1] => { results := [.lit (.bool true)], args := [d], vars := [g1] }
  | _ => none }
def fnWorldFallRow : OpenClaim := { program := "ytngbcdcghbapnaagreatdoor", sum := "49111d6c666f8c843ae5dfb695a30d7146914ba36d4ddc578ea6c3c401882b47", func := "loop.example/pannage/laws.FnWorldFall", spec := "fnWorldFall", inPlace := ["internal/abi.NoEscape", "internal/bytealg.MakeNoZero"], unfollowed := true, recurses := true, named := ["loop.example/pannage/impl.whole"], apart := false, laid := [("loop.example/pannage/impl.whole", laid_loop_example_pannage_impl_whole)] }
def FnWorldFallSaid : Prop := fnWorldFallRow.holds Tryz.pinned (OpenSpec.ofChange fnWorldFallSpec)

/-- ITS FALSE NEIGHBOUR: 'it returns false'. Refute it at one input. -/
def fnWorldFallWrong : ChangeSpec := { name := "fnWorldFall", vars := ["loop.example/pannage/impl.whole"], fn := fun _ => fun
  | [d, g1] => { results := [.lit (.bool false)], args := [d], vars := [g1] }
  | _ => none }
def FnWorldFallWrongFalsely : Prop := fnWorldFallRow.holds Tryz.pinned (OpenSpec.ofChange fnWorldFallWrong)

/-- 'laws.FnWorldFile': WHATEVER THE INPUT: true; the input reads as it did. -/
def fnWorldFileSpec : ChangeSpec := { name := "fnWorldFile", vars := ["loop.example/pannage/impl.whole"], fn := fun _ => fun
  | [d, g1] => { results := [.lit (.bool true)], args := [d], vars := [g1] }
  | _ => none }
def fnWorldFileRow : OpenClaim := { program := "ytngbcdcghbapnaagreatdoor", sum := "49111d6c666f8c843ae5dfb695a30d7146914ba36d4ddc578ea6c3c401882b47", func := "loop.example/pannage/laws.FnWorldFile", spec := "fnWorldFile", inPlace := ["internal/abi.NoEscape", "internal/bytealg.MakeNoZero"], unfollowed := true, recurses := true, named := ["loop.example/pannage/impl.whole"], apart := false, laid := [("loop.example/pannage/impl.whole", laid_loop_example_pannage_impl_whole)] }
def FnWorldFileSaid : Prop := fnWorldFileRow.holds Tryz.pinned (OpenSpec.ofChange fnWorldFileSpec)

/-- ITS FALSE NEIGHBOUR: 'it returns false'. Refute it at one input. -/
def fnWorldFileWrong : ChangeSpec := { name := "fnWorldFile", vars := ["loop.example/pannage/impl.whole"], fn := fun _ => fun
  | [d, g1] => { results := [.lit (.bool false)], args := [d], vars := [g1] }
  | _ => none }
def FnWorldFileWrongFalsely : Prop := fnWorldFileRow.holds Tryz.pinned (OpenSpec.ofChange fnWorldFileWrong)

/-- 'laws.FnWorldSure': WHATEVER THE INPUT: true; the input reads as it did. -/
def fnWorldSureSpec : ChangeSpec := { name := "fnWorldSure", vars := ["loop.example/pannage/impl.whole"], fn := fun _ => fun
  | [d, g1] => { results := [.lit (.bool true)], args := [d], vars := [g1] }
  | _ => none }
def fnWorldSureRow : OpenClaim := { program := "ytngbcdcghbapnaagreatdoor", sum := "49111d6c666f8c843ae5dfb695a30d7146914ba36d4ddc578ea6c3c401882b47", func := "loop.example/pannage/laws.FnWorldSure", spec := "fnWorldSure", inPlace := ["internal/abi.NoEscape", "internal/bytealg.MakeNoZero"], unfollowed := true, recurses := true, named := ["loop.example/pannage/impl.whole"], apart := false, laid := [("loop.example/pannage/impl.whole", laid_loop_example_pannage_impl_whole)] }
def FnWorldSureSaid : Prop := fnWorldSureRow.holds Tryz.pinned (OpenSpec.ofChange fnWorldSureSpec)

/-- ITS FALSE NEIGHBOUR: 'it returns false'. Refute it at one input. -/
def fnWorldSureWrong : ChangeSpec := { name := "fnWorldSure", vars := ["loop.example/pannage/impl.whole"], fn := fun _ => fun
  | [d, g1] => { results := [.lit (.bool false)], args := [d], vars := [g1] }
  | _ => none }
def FnWorldSureWrongFalsely : Prop := fnWorldSureRow.holds Tryz.pinned (OpenSpec.ofChange fnWorldSureWrong)

/-- 'laws.FnWorldBent': WHATEVER THE INPUT: true; the input reads as it did. -/
def fnWorldBentSpec : ChangeSpec := { name := "fnWorldBent", vars := ["loop.example/pannage/impl.whole"], fn := fun _ => fun
  | [d, g1] => { results := [.lit (.bool true)], args := [d], vars := [g1] }
  | _ => none }
def fnWorldBentRow : OpenClaim := { program := "ytngbcdcghbapnaagreatdoor", sum := "49111d6c666f8c843ae5dfb695a30d7146914ba36d4ddc578ea6c3c401882b47", func := "loop.example/pannage/laws.FnWorldBent", spec := "fnWorldBent", inPlace := ["internal/abi.NoEscape", "internal/bytealg.MakeNoZero"], unfollowed := true, recurses := true, named := ["loop.example/pannage/impl.whole"], apart := false, laid := [("loop.example/pannage/impl.whole", laid_loop_example_pannage_impl_whole)] }
def FnWorldBentSaid : Prop := fnWorldBentRow.holds Tryz.pinned (OpenSpec.ofChange fnWorldBentSpec)

/-- ITS FALSE NEIGHBOUR: 'it returns false'. Refute it at one input. -/
def fnWorldBentWrong : ChangeSpec := { name := "fnWorldBent", vars := ["loop.example/pannage/impl.whole"], fn := fun _ => fun
  | [d, g1] => { results := [.lit (.bool false)], args := [d], vars := [g1] }
  | _ => none }
def FnWorldBentWrongFalsely : Prop := fnWorldBentRow.holds Tryz.pinned (OpenSpec.ofChange fnWorldBentWrong)

/-- 'laws.FnWorldSame': WHATEVER THE INPUT: true; the input reads as it did. -/
def fnWorldSameSpec : ChangeSpec := { name := "fnWorldSame", vars := ["loop.example/pannage/impl.whole"], fn := fun _ => fun
  | [d, g1] => { results := [.lit (.bool true)], args := [d], vars := [g1] }
  | _ => none }
def fnWorldSameRow : OpenClaim := { program := "ytngbcdcghbapnaagreatdoor", sum := "49111d6c666f8c843ae5dfb695a30d7146914ba36d4ddc578ea6c3c401882b47", func := "loop.example/pannage/laws.FnWorldSame", spec := "fnWorldSame", inPlace := ["internal/abi.NoEscape", "internal/bytealg.MakeNoZero"], unfollowed := true, recurses := true, named := ["loop.example/pannage/impl.whole"], apart := false, laid := [("loop.example/pannage/impl.whole", laid_loop_example_pannage_impl_whole)] }
def FnWorldSameSaid : Prop := fnWorldSameRow.holds Tryz.pinned (OpenSpec.ofChange fnWorldSameSpec)

/-- ITS FALSE NEIGHBOUR: 'it returns false'. Refute it at one input. -/
def fnWorldSameWrong : ChangeSpec := { name := "fnWorldSame", vars := ["loop.example/pannage/impl.whole"], fn := fun _ => fun
  | [d, g1] => { results := [.lit (.bool false)], args := [d], vars := [g1] }
  | _ => none }
def FnWorldSameWrongFalsely : Prop := fnWorldSameRow.holds Tryz.pinned (OpenSpec.ofChange fnWorldSameWrong)

/-- 'laws.FnWorldOk': WHATEVER THE INPUT: true; the input reads as it did. -/
def fnWorldOkSpec : ChangeSpec := { name := "fnWorldOk", vars := ["loop.example/pannage/impl.whole"], fn := fun _ => fun
  | [d, g1] => { results := [.lit (.bool true)], args := [d], vars := [g1] }
  | _ => none }
def fnWorldOkRow : OpenClaim := { program := "ytngbcdcghbapnaagreatdoor", sum := "49111d6c666f8c843ae5dfb695a30d7146914ba36d4ddc578ea6c3c401882b47", func := "loop.example/pannage/laws.FnWorldOk", spec := "fnWorldOk", inPlace := ["internal/abi.NoEscape", "internal/bytealg.MakeNoZero"], unfollowed := true, recurses := true, named := ["loop.example/pannage/impl.whole"], apart := false, laid := [("loop.example/pannage/impl.whole", laid_loop_example_pannage_impl_whole)] }
def FnWorldOkSaid : Prop := fnWorldOkRow.holds Tryz.pinned (OpenSpec.ofChange fnWorldOkSpec)

/-- ITS FALSE NEIGHBOUR: 'it returns false'. Refute it at one input. -/
def fnWorldOkWrong : ChangeSpec := { name := "fnWorldOk", vars := ["loop.example/pannage/impl.whole"], fn := fun _ => fun
  | [d, g1] => { results := [.lit (.bool false)], args := [d], vars := [g1] }
  | _ => none }
def FnWorldOkWrongFalsely : Prop := fnWorldOkRow.holds Tryz.pinned (OpenSpec.ofChange fnWorldOkWrong)

/-- 'laws.FnWorldStill': WHATEVER THE INPUT: true; the input reads as it did. -/
def fnWorldStillSpec : ChangeSpec := { name := "fnWorldStill", vars := ["loop.example/pannage/impl.whole"], fn := fun _ => fun
  | [d, g1] => { results := [.lit (.bool true)], args := [d], vars := [g1] }
  | _ => none }
def fnWorldStillRow : OpenClaim := { program := "ytngbcdcghbapnaagreatdoor", sum := "49111d6c666f8c843ae5dfb695a30d7146914ba36d4ddc578ea6c3c401882b47", func := "loop.example/pannage/laws.FnWorldStill", spec := "fnWorldStill", inPlace := ["internal/abi.NoEscape", "internal/bytealg.MakeNoZero"], unfollowed := true, recurses := true, named := ["loop.example/pannage/impl.whole"], apart := false, laid := [("loop.example/pannage/impl.whole", laid_loop_example_pannage_impl_whole)] }
def FnWorldStillSaid : Prop := fnWorldStillRow.holds Tryz.pinned (OpenSpec.ofChange fnWorldStillSpec)

/-- ITS FALSE NEIGHBOUR: 'it returns false'. Refute it at one input. -/
def fnWorldStillWrong : ChangeSpec := { name := "fnWorldStill", vars := ["loop.example/pannage/impl.whole"], fn := fun _ => fun
  | [d, g1] => { results := [.lit (.bool false)], args := [d], vars := [g1] }
  | _ => none }
def FnWorldStillWrongFalsely : Prop := fnWorldStillRow.holds Tryz.pinned (OpenSpec.ofChange fnWorldStillWrong)

/-- 'laws.FnWorldDead': WHATEVER THE INPUT: true; the input reads as it did. -/
def fnWorldDeadSpec : ChangeSpec := { name := "fnWorldDead", vars := ["loop.example/pannage/impl.whole"], fn := fun _ => fun
  | [d, g1] => { results := [.lit (.bool true)], args := [d], vars := [g1] }
  | _ => none }
def fnWorldDeadRow : OpenClaim := { program := "ytngbcdcghbapnaagreatdoor", sum := "49111d6c666f8c843ae5dfb695a30d7146914ba36d4ddc578ea6c3c401882b47", func := "loop.example/pannage/laws.FnWorldDead", spec := "fnWorldDead", inPlace := ["internal/abi.NoEscape", "internal/bytealg.MakeNoZero"], unfollowed := true, recurses := true, named := ["loop.example/pannage/impl.whole"], apart := false, laid := [("loop.example/pannage/impl.whole", laid_loop_example_pannage_impl_whole)] }
def FnWorldDeadSaid : Prop := fnWorldDeadRow.holds Tryz.pinned (OpenSpec.ofChange fnWorldDeadSpec)

/-- ITS FALSE NEIGHBOUR: 'it returns false'. Refute it at one input. -/
def fnWorldDeadWrong : ChangeSpec := { name := "fnWorldDead", vars := ["loop.example/pannage/impl.whole"], fn := fun _ => fun
  | [d, g1] => { results := [.lit (.bool false)], args := [d], vars := [g1] }
  | _ => none }
def FnWorldDeadWrongFalsely : Prop := fnWorldDeadRow.holds Tryz.pinned (OpenSpec.ofChange fnWorldDeadWrong)

/-- 'laws.FnWorldLate': WHATEVER THE INPUT: true; the input reads as it did. -/
def fnWorldLateSpec : ChangeSpec := { name := "fnWorldLate", vars := ["loop.example/pannage/impl.whole"], fn := fun _ => fun
  | [d, g1] => { results := [.lit (.bool true)], args := [d], vars := [g1] }
  | _ => none }
def fnWorldLateRow : OpenClaim := { program := "ytngbcdcghbapnaagreatdoor", sum := "49111d6c666f8c843ae5dfb695a30d7146914ba36d4ddc578ea6c3c401882b47", func := "loop.example/pannage/laws.FnWorldLate", spec := "fnWorldLate", inPlace := ["internal/abi.NoEscape", "internal/bytealg.MakeNoZero"], unfollowed := true, recurses := true, named := ["loop.example/pannage/impl.whole"], apart := false, laid := [("loop.example/pannage/impl.whole", laid_loop_example_pannage_impl_whole)] }
def FnWorldLateSaid : Prop := fnWorldLateRow.holds Tryz.pinned (OpenSpec.ofChange fnWorldLateSpec)

/-- ITS FALSE NEIGHBOUR: 'it returns false'. Refute it at one input. -/
def fnWorldLateWrong : ChangeSpec := { name := "fnWorldLate", vars := ["loop.example/pannage/impl.whole"], fn := fun _ => fun
  | [d, g1] => { results := [.lit (.bool false)], args := [d], vars := [g1] }
  | _ => none }
def FnWorldLateWrongFalsely : Prop := fnWorldLateRow.holds Tryz.pinned (OpenSpec.ofChange fnWorldLateWrong)

/-- 'laws.FnExactWorldText': WHATEVER THE INPUT: true; the input reads as it did. -/
def fnExactWorldTextSpec : ChangeSpec := { name := "fnExactWorldText", vars := ["loop.example/pannage/impl.whole"], fn := fun _ => fun
  | [d, g1] => { results := [.lit (.bool true)], args := [d], vars := [g1] }
  | _ => none }
def fnExactWorldTextRow : OpenClaim := { program := "ytngbcdcghbapnaagreatdoor", sum := "49111d6c666f8c843ae5dfb695a30d7146914ba36d4ddc578ea6c3c401882b47", func := "loop.example/pannage/laws.FnExactWorldText", spec := "fnExactWorldText", inPlace := ["internal/abi.NoEscape", "internal/bytealg.MakeNoZero"], named := ["loop.example/pannage/impl.whole"], apart := false, laid := [("loop.example/pannage/impl.whole", laid_loop_example_pannage_impl_whole)] }
def FnExactWorldTextSaid : Prop := fnExactWorldTextRow.holds Tryz.pinned (OpenSpec.ofChange fnExactWorldTextSpec)

/-- ITS FALSE NEIGHBOUR: 'it returns false'. Refute it at one input. -/
def fnExactWorldTextWrong : ChangeSpec := { name := "fnExactWorldText", vars := ["loop.example/pannage/impl.whole"], fn := fun _ => fun
  | [d, g1] => { results := [.lit (.bool false)], args := [d], vars := [g1] }
  | _ => none }
def FnExactWorldTextWrongFalsely : Prop := fnExactWorldTextRow.holds Tryz.pinned (OpenSpec.ofChange fnExactWorldTextWrong)

/-- 'laws.FnWorldFlat': WHATEVER THE INPUT: true; the input reads as it did. -/
def fnWorldFlatSpec : ChangeSpec := { name := "fnWorldFlat", vars := ["loop.example/pannage/impl.whole"], fn := fun _ => fun
  | [d, g1] => { results := [.lit (.bool true)], args := [d], vars := [g1] }
  | _ => none }
def fnWorldFlatRow : OpenClaim := { program := "ytngbcdcghbapnaagreatdoor", sum := "49111d6c666f8c843ae5dfb695a30d7146914ba36d4ddc578ea6c3c401882b47", func := "loop.example/pannage/laws.FnWorldFlat", spec := "fnWorldFlat", inPlace := ["internal/abi.NoEscape", "internal/bytealg.MakeNoZero"], unfollowed := true, recurses := true, named := ["loop.example/pannage/impl.whole"], apart := false, laid := [("loop.example/pannage/impl.whole", laid_loop_example_pannage_impl_whole)] }
def FnWorldFlatSaid : Prop := fnWorldFlatRow.holds Tryz.pinned (OpenSpec.ofChange fnWorldFlatSpec)

/-- ITS FALSE NEIGHBOUR: 'it returns false'. Refute it at one input. -/
def fnWorldFlatWrong : ChangeSpec := { name := "fnWorldFlat", vars := ["loop.example/pannage/impl.whole"], fn := fun _ => fun
  | [d, g1] => { results := [.lit (.bool false)], args := [d], vars := [g1] }
  | _ => none }
def FnWorldFlatWrongFalsely : Prop := fnWorldFlatRow.holds Tryz.pinned (OpenSpec.ofChange fnWorldFlatWrong)

/- THE SECOND FORM. 'bulk': how many values and letters a reading holds, each counted each time it is reached (what is shared counts as often as it is met; a slice's spare places count too). A statement '..UptoSaid' is the law's where the arguments, and the package variables that the reading takes, are together of bulk at most 1048576: NARROWER than '..Said'. Prove '..Said' where nothing that the law and all that it calls make is longer than what came in: it says more and counts as full. Else prove '..UptoSaid'. A law counts once. -/
mutual
def uptoBulk {H : Type} : DataW H → Nat
  | .lit (.string bytes) => bytes.length + 1
  | .lit _ => 1
  | .nil => 1
  | .ptr d => uptoBulk d + 1
  | .slice elems spare => uptoBulkAll elems + uptoBulkAll spare + 1
  | .agg parts => uptoBulkAll parts + 1
  | .iface _ d => uptoBulk d + 1
  | .map entries => uptoBulkEntries entries + 1
  | .held _ => 1
def uptoBulkAll {H : Type} : List (DataW H) → Nat
  | [] => 0
  | d :: r => uptoBulk d + uptoBulkAll r
def uptoBulkEntries {H : Type} : List (Lit × DataW H) → Nat
  | [] => 0
  | x :: r => uptoBulkEntry x + uptoBulkEntries r
def uptoBulkEntry {H : Type} : Lit × DataW H → Nat
  | (.string bytes, d) => bytes.length + uptoBulk d + 1
  | (_, d) => uptoBulk d + 1
 end
def uptoSmall : (H : Type) → List (DataW H) → Bool := fun _ ds => decide (uptoBulkAll ds ≤ 1048576)
def OpenSpec.upto (s : _root_.Go.ChangeSpec) : _root_.Go.OpenSpec := { _root_.Go.OpenSpec.ofChange s with cond := some uptoSmall }

/-- 'laws.FnWorldHeld', WHERE WHAT IT READS IS OF BULK AT MOST 1048576: true; the input reads as it did. -/
def fnWorldHeldUptoRow : OpenClaim := { program := "ytngbcdcghbapnaagreatdoor", sum := "49111d6c666f8c843ae5dfb695a30d7146914ba36d4ddc578ea6c3c401882b47", func := "loop.example/pannage/laws.FnWorldHeld", spec := "fnWorldHeld", inPlace := ["internal/abi.NoEscape", "internal/bytealg.MakeNoZero"], unfollowed := true, recurses := true, named := ["loop.example/pannage/impl.whole"], apart := false, laid := [("loop.example/pannage/impl.whole", laid_loop_example_pannage_impl_whole)], narrowed := true }
def FnWorldHeldUptoSaid : Prop := fnWorldHeldUptoRow.holds Tryz.pinned (OpenSpec.upto fnWorldHeldSpec)

/-- 'laws.FnWorldFall', WHERE WHAT IT READS IS OF BULK AT MOST 1048576: true; the input reads as it did. -/
def fnWorldFallUptoRow : OpenClaim := { program := "ytngbcdcghbapnaagreatdoor", sum := "49111d6c666f8c843ae5dfb695a30d7146914ba36d4ddc578ea6c3c401882b47", func := "loop.example/pannage/laws.FnWorldFall", spec := "fnWorldFall", inPlace := ["internal/abi.NoEscape", "internal/bytealg.MakeNoZero"], unfollowed := true, recurses := true, named := ["loop.example/pannage/impl.whole"], apart := false, laid := [("loop.example/pannage/impl.whole", laid_loop_example_pannage_impl_whole)], narrowed := true }
def FnWorldFallUptoSaid : Prop := fnWorldFallUptoRow.holds Tryz.pinned (OpenSpec.upto fnWorldFallSpec)

/-- 'laws.FnWorldFile', WHERE WHAT IT READS IS OF BULK AT MOST 1048576: true; the input reads as it did. -/
def fnWorldFileUptoRow : OpenClaim := { program := "ytngbcdcghbapnaagreatdoor", sum := "49111d6c666f8c843ae5dfb695a30d7146914ba36d4ddc578ea6c3c401882b47", func := "loop.example/pannage/laws.FnWorldFile", spec := "fnWorldFile", inPlace := ["internal/abi.NoEscape", "internal/bytealg.MakeNoZero"], unfollowed := true, recurses := true, named := ["loop.example/pannage/impl.whole"], apart := false, laid := [("loop.example/pannage/impl.whole", laid_loop_example_pannage_impl_whole)], narrowed := true }
def FnWorldFileUptoSaid : Prop := fnWorldFileUptoRow.holds Tryz.pinned (OpenSpec.upto fnWorldFileSpec)

/-- 'laws.FnWorldSure', WHERE WHAT IT READS IS OF BULK AT MOST 1048576: true; the input reads as it did. -/
def fnWorldSureUptoRow : OpenClaim := { program := "ytngbcdcghbapnaagreatdoor", sum := "49111d6c666f8c843ae5dfb695a30d7146914ba36d4ddc578ea6c3c401882b47", func := "loop.example/pannage/laws.FnWorldSure", spec := "fnWorldSure", inPlace := ["internal/abi.NoEscape", "internal/bytealg.MakeNoZero"], unfollowed := true, recurses := true, named := ["loop.example/pannage/impl.whole"], apart := false, laid := [("loop.example/pannage/impl.whole", laid_loop_example_pannage_impl_whole)], narrowed := true }
def FnWorldSureUptoSaid : Prop := fnWorldSureUptoRow.holds Tryz.pinned (OpenSpec.upto fnWorldSureSpec)

/-- 'laws.FnWorldBent', WHERE WHAT IT READS IS OF BULK AT MOST 1048576: true; the input reads as it did. -/
def fnWorldBentUptoRow : OpenClaim := { program := "ytngbcdcghbapnaagreatdoor", sum := "49111d6c666f8c843ae5dfb695a30d7146914ba36d4ddc578ea6c3c401882b47", func := "loop.example/pannage/laws.FnWorldBent", spec := "fnWorldBent", inPlace := ["internal/abi.NoEscape", "internal/bytealg.MakeNoZero"], unfollowed := true, recurses := true, named := ["loop.example/pannage/impl.whole"], apart := false, laid := [("loop.example/pannage/impl.whole", laid_loop_example_pannage_impl_whole)], narrowed := true }
def FnWorldBentUptoSaid : Prop := fnWorldBentUptoRow.holds Tryz.pinned (OpenSpec.upto fnWorldBentSpec)

/-- 'laws.FnWorldSame', WHERE WHAT IT READS IS OF BULK AT MOST 1048576: true; the input reads as it did. -/
def fnWorldSameUptoRow : OpenClaim := { program := "ytngbcdcghbapnaagreatdoor", sum := "49111d6c666f8c843ae5dfb695a30d7146914ba36d4ddc578ea6c3c401882b47", func := "loop.example/pannage/laws.FnWorldSame", spec := "fnWorldSame", inPlace := ["internal/abi.NoEscape", "internal/bytealg.MakeNoZero"], unfollowed := true, recurses := true, named := ["loop.example/pannage/impl.whole"], apart := false, laid := [("loop.example/pannage/impl.whole", laid_loop_example_pannage_impl_whole)], narrowed := true }
def FnWorldSameUptoSaid : Prop := fnWorldSameUptoRow.holds Tryz.pinned (OpenSpec.upto fnWorldSameSpec)

/-- 'laws.FnWorldOk', WHERE WHAT IT READS IS OF BULK AT MOST 1048576: true; the input reads as it did. -/
def fnWorldOkUptoRow : OpenClaim := { program := "ytngbcdcghbapnaagreatdoor", sum := "49111d6c666f8c843ae5dfb695a30d7146914ba36d4ddc578ea6c3c401882b47", func := "loop.example/pannage/laws.FnWorldOk", spec := "fnWorldOk", inPlace := ["internal/abi.NoEscape", "internal/bytealg.MakeNoZero"], unfollowed := true, recurses := true, named := ["loop.example/pannage/impl.whole"], apart := false, laid := [("loop.example/pannage/impl.whole", laid_loop_example_pannage_impl_whole)], narrowed := true }
def FnWorldOkUptoSaid : Prop := fnWorldOkUptoRow.holds Tryz.pinned (OpenSpec.upto fnWorldOkSpec)

/-- 'laws.FnWorldStill', WHERE WHAT IT READS IS OF BULK AT MOST 1048576: true; the input reads as it did. -/
def fnWorldStillUptoRow : OpenClaim := { program := "ytngbcdcghbapnaagreatdoor", sum := "49111d6c666f8c843ae5dfb695a30d7146914ba36d4ddc578ea6c3c401882b47", func := "loop.example/pannage/laws.FnWorldStill", spec := "fnWorldStill", inPlace := ["internal/abi.NoEscape", "internal/bytealg.MakeNoZero"], unfollowed := true, recurses := true, named := ["loop.example/pannage/impl.whole"], apart := false, laid := [("loop.example/pannage/impl.whole", laid_loop_example_pannage_impl_whole)], narrowed := true }
def FnWorldStillUptoSaid : Prop := fnWorldStillUptoRow.holds Tryz.pinned (OpenSpec.upto fnWorldStillSpec)

/-- 'laws.FnWorldDead', WHERE WHAT IT READS IS OF BULK AT MOST 1048576: true; the input reads as it did. -/
def fnWorldDeadUptoRow : OpenClaim := { program := "ytngbcdcghbapnaagreatdoor", sum := "49111d6c666f8c843ae5dfb695a30d7146914ba36d4ddc578ea6c3c401882b47", func := "loop.example/pannage/laws.FnWorldDead", spec := "fnWorldDead", inPlace := ["internal/abi.NoEscape", "internal/bytealg.MakeNoZero"], unfollowed := true, recurses := true, named := ["loop.example/pannage/impl.whole"], apart := false, laid := [("loop.example/pannage/impl.whole", laid_loop_example_pannage_impl_whole)], narrowed := true }
def FnWorldDeadUptoSaid : Prop := fnWorldDeadUptoRow.holds Tryz.pinned (OpenSpec.upto fnWorldDeadSpec)

/-- 'laws.FnWorldLate', WHERE WHAT IT READS IS OF BULK AT MOST 1048576: true; the input reads as it did. -/
def fnWorldLateUptoRow : OpenClaim := { program := "ytngbcdcghbapnaagreatdoor", sum := "49111d6c666f8c843ae5dfb695a30d7146914ba36d4ddc578ea6c3c401882b47", func := "loop.example/pannage/laws.FnWorldLate", spec := "fnWorldLate", inPlace := ["internal/abi.NoEscape", "internal/bytealg.MakeNoZero"], unfollowed := true, recurses := true, named := ["loop.example/pannage/impl.whole"], apart := false, laid := [("loop.example/pannage/impl.whole", laid_loop_example_pannage_impl_whole)], narrowed := true }
def FnWorldLateUptoSaid : Prop := fnWorldLateUptoRow.holds Tryz.pinned (OpenSpec.upto fnWorldLateSpec)

/-- 'laws.FnExactWorldText', WHERE WHAT IT READS IS OF BULK AT MOST 1048576: true; the input reads as it did. -/
def fnExactWorldTextUptoRow : OpenClaim := { program := "ytngbcdcghbapnaagreatdoor", sum := "49111d6c666f8c843ae5dfb695a30d7146914ba36d4ddc578ea6c3c401882b47", func := "loop.example/pannage/laws.FnExactWorldText", spec := "fnExactWorldText", inPlace := ["internal/abi.NoEscape", "internal/bytealg.MakeNoZero"], named := ["loop.example/pannage/impl.whole"], apart := false, laid := [("loop.example/pannage/impl.whole", laid_loop_example_pannage_impl_whole)], narrowed := true }
def FnExactWorldTextUptoSaid : Prop := fnExactWorldTextUptoRow.holds Tryz.pinned (OpenSpec.upto fnExactWorldTextSpec)

/-- 'laws.FnWorldFlat', WHERE WHAT IT READS IS OF BULK AT MOST 1048576: true; the input reads as it did. -/
def fnWorldFlatUptoRow : OpenClaim := { program := "ytngbcdcghbapnaagreatdoor", sum := "49111d6c666f8c843ae5dfb695a30d7146914ba36d4ddc578ea6c3c401882b47", func := "loop.example/pannage/laws.FnWorldFlat", spec := "fnWorldFlat", inPlace := ["internal/abi.NoEscape", "internal/bytealg.MakeNoZero"], unfollowed := true, recurses := true, named := ["loop.example/pannage/impl.whole"], apart := false, laid := [("loop.example/pannage/impl.whole", laid_loop_example_pannage_impl_whole)], narrowed := true }
def FnWorldFlatUptoSaid : Prop := fnWorldFlatUptoRow.holds Tryz.pinned (OpenSpec.upto fnWorldFlatSpec)

end Rows
end Go.Proofs.YtngbcdcghbapnaaGreatDoor
