/-
  NARROWER THAN 'FOR EVERY INPUT', by the rows' own cells (each row's printed sentence says how): FnWorldRead: laid · FnWorldWrite: laid · FnWorldFlush: laid · FnWorldLock: laid · FnWorldHeld: laid · FnWorldTwo: laid · FnWorldLost: laid.
  DERIVED. THE GIVEN ROWS OF THIS SEAT. 7 by the template 'for every input the law returns true; each argument reads behind the call as it read before'; 0 by the template 'total and deterministic' (their statements: YtikmfpdfippjhaaGreatDoorTotals.lean).
  GIVEN WITH THE SEED: the statements are not yours to turn. If you find one false, say at which input.
  Laid BY PROGRAM, IN A SANDBOX (cutbox-rows.mjs): the forced cells as the released guide's own fill.sh prints them over the translation 5b0e8091905a4aa1… (all of the seat's roots in one cut). By AI agents, Wed Nov 11 2026. No macro, syntax, notation, axiom, sorry.
-/
import Derived.Test.YtikmfpdfippjhaaGreatDoorChecked
import GoSem.Claim
import GoSem.ClaimJoined
import GoSem.ClaimMapViews
import Derived.JoinedTies
import Derived.KernelRfl
namespace Go.Proofs.YtikmfpdfippjhaaGreatDoor
/- THE CELL 'sum', in the pinned program and in every row, IS THE sha256 OF THE DUMP (.gsa) THAT YtikmfpdfippjhaaGreatDoorProg.lean LOADS. Nothing in Lean hashes anything: it is a label: what it is worth is what the hold of that sum in a sandbox is worth. -/
noncomputable def Tryz.pinned : Pinned := { name := "ytikmfpdfippjhaagreatdoor", sum := "5b0e8091905a4aa1a334d6562a058a3f81c3db210218cb9da014c3a209ef0f3d", checked := Tryz.checked }
namespace Rows
def none {H : Type} : Left H := { results := [], args := [] }

/- WHAT THE LISTED PACKAGE-LEVEL VARIABLES READ AS WHEN THE CALL BEGINS. Each datum BY PROGRAM (the guide's laid-datum.mjs) off the statement by which the dump's own 'gosem.cut.vars' lays the variable. In a bare row this is a premise. The card (YtikmfpdfippjhaaGreatDoorCards.lean) ties it to the program's text. -/
def laid_loop_example_pannage_impl_whole {H : Type} : DataW H := .agg [.lit (.int .i64 0), .lit (.int .i64 48)]

/-- 'laws.FnWorldRead': WHATEVER THE INPUT: true; the input reads as it did. -/
def fnWorldReadSpec : ChangeSpec := { name := "fnWorldRead", vars := ["loop.example/pannage/impl.whole"], fn := fun _ => fun
  | [d, g1] => { results := [.lit (.bool true)], args := [d], vars := [g1] }
  | _ => none }
def fnWorldReadRow : OpenClaim := { program := "ytikmfpdfippjhaagreatdoor", sum := "5b0e8091905a4aa1a334d6562a058a3f81c3db210218cb9da014c3a209ef0f3d", func := "loop.example/pannage/laws.FnWorldRead", spec := "fnWorldRead", inPlace := ["internal/abi.NoEscape", "internal/bytealg.MakeNoZero"], unfollowed := true, recurses := true, named := ["loop.example/pannage/impl.whole"], apart := false, laid := [("loop.example/pannage/impl.whole", laid_loop_example_pannage_impl_whole)] }
def FnWorldReadSaid : Prop := fnWorldReadRow.holds Tryz.pinned (OpenSpec.ofChange fnWorldReadSpec)

/-- ITS FALSE NEIGHBOUR: 'it returns false'. Refute it at one input. -/
def fnWorldReadWrong : ChangeSpec := { name := "fnWorldRead", vars := ["loop.example/pannage/impl.whole"], fn := fun _ => fun
  | [d, g1] => { results := [.lit (.bool false)], args := [d], vars := [g1] }
  | _ => none }
def FnWorldReadWrongFalsely : Prop := fnWorldReadRow.holds Tryz.pinned (OpenSpec.ofChange fnWorldReadWrong)

/-- 'laws.FnWorldWrite': WHATEVER THE INPUT: true; the input reads as it did. -/
def fnWorldWriteSpec : ChangeSpec := { name := "fnWorldWrite", vars := ["loop.example/pannage/impl.whole"], fn := fun _ => fun
  | [d, g1] => { results := [.lit (.bool true)], args := [d], vars := [g1] }
  | _ => none }
def fnWorldWriteRow : OpenClaim := { program := "ytikmfpdfippjhaagreatdoor", sum := "5b0e8091905a4aa1a334d6562a058a3f81c3db210218cb9da014c3a209ef0f3d", func := "loop.example/pannage/laws.FnWorldWrite", spec := "fnWorldWrite", inPlace := ["internal/abi.NoEscape", "internal/bytealg.MakeNoZero"], unfollowed := true, recurses := true, named := ["loop.example/pannage/impl.whole"], apart := false, laid := [("loop.example/pannage/impl.whole", laid_loop_example_pannage_impl_whole)] }
def FnWorldWriteSaid : Prop := fnWorldWriteRow.holds Tryz.pinned (OpenSpec.ofChange fnWorldWriteSpec)

/-- ITS FALSE NEIGHBOUR: 'it returns false'. Refute it at one input. -/
def fnWorldWriteWrong : ChangeSpec := { name := "fnWorldWrite", vars := ["loop.example/pannage/impl.whole"], fn := fun _ => fun
  | [d, g1] => { results := [.lit (.bool false)], args := [d], vars := [g1] }
  | _ => none }
def FnWorldWriteWrongFalsely : Prop := fnWorldWriteRow.holds Tryz.pinned (OpenSpec.ofChange fnWorldWriteWrong)

/-- 'laws.FnWorldFlush': WHATEVER THE INPUT: true; the input reads as it did. -/
def fnWorldFlushSpec : ChangeSpec := { name := "fnWorldFlush", vars := ["loop.example/pannage/impl.whole"], fn := fun _ => fun
  | [d, g1] => { results := [.lit (.bool true)], args := [d], vars := [g1] }
  | _ => none }
def fnWorldFlushRow : OpenClaim := { program := "ytikmfpdfippjhaagreatdoor", sum := "5b0e8091905a4aa1a334d6562a058a3f81c3db210218cb9da014c3a209ef0f3d", func := "loop.example/pannage/laws.FnWorldFlush", spec := "fnWorldFlush", inPlace := ["internal/abi.NoEscape", "internal/bytealg.MakeNoZero"], unfollowed := true, recurses := true, named := ["loop.example/pannage/impl.whole"], apart := false, laid := [("loop.example/pannage/impl.whole", laid_loop_example_pannage_impl_whole)] }
def FnWorldFlushSaid : Prop := fnWorldFlushRow.holds Tryz.pinned (OpenSpec.ofChange fnWorldFlushSpec)

/-- ITS FALSE NEIGHBOUR: 'it returns false'. Refute it at one input. -/
def fnWorldFlushWrong : ChangeSpec := { name := "fnWorldFlush", vars := ["loop.example/pannage/impl.whole"], fn := fun _ => fun
  | [d, g1] => { results := [.lit (.bool false)], args := [d], vars := [g1] }
  | _ => none }
def FnWorldFlushWrongFalsely : Prop := fnWorldFlushRow.holds Tryz.pinned (OpenSpec.ofChange fnWorldFlushWrong)

/-- 'laws.FnWorldLock': WHATEVER THE INPUT: true; the input reads as it did. -/
def fnWorldLockSpec : ChangeSpec := { name := "fnWorldLock", vars := ["loop.example/pannage/impl.whole"], fn := fun _ => fun
  | [d, g1] => { results := [.lit (.bool true)], args := [d], vars := [g1] }
  | _ => none }
def fnWorldLockRow : OpenClaim := { program := "ytikmfpdfippjhaagreatdoor", sum := "5b0e8091905a4aa1a334d6562a058a3f81c3db210218cb9da014c3a209ef0f3d", func := "loop.example/pannage/laws.FnWorldLock", spec := "fnWorldLock", inPlace := ["internal/abi.NoEscape", "internal/bytealg.MakeNoZero"], unfollowed := true, recurses := true, named := ["loop.example/pannage/impl.whole"], apart := false, laid := [("loop.example/pannage/impl.whole", laid_loop_example_pannage_impl_whole)] }
def FnWorldLockSaid : Prop := fnWorldLockRow.holds Tryz.pinned (OpenSpec.ofChange fnWorldLockSpec)

/-- ITS FALSE NEIGHBOUR: 'it returns false'. Refute it at one input. -/
def fnWorldLockWrong : ChangeSpec := { name := "fnWorldLock", vars := ["loop.example/pannage/impl.whole"], fn := fun _ => fun
  | [d, g1] => { results := [.lit (.bool false)], args := [d], vars := [g1] }
  | _ => none }
def FnWorldLockWrongFalsely : Prop := fnWorldLockRow.holds Tryz.pinned (OpenSpec.ofChange fnWorldLockWrong)

/-- 'laws.FnWorldHeld': WHATEVER THE INPUT: true; the input reads as it did. -/
def fnWorldHeldSpec : ChangeSpec := { name := "fnWorldHeld", vars := ["loop.example/pannage/impl.whole"], fn := fun _ => fun
  | [d, g1] => { results := [.lit (.bool true)], args := [d], vars := [g1] }
  | _ => none }
def fnWorldHeldRow : OpenClaim := { program := "ytikmfpdfippjhaagreatdoor", sum := "5b0e8091905a4aa1a334d6562a058a3f81c3db210218cb9da014c3a209ef0f3d", func := "loop.example/pannage/laws.FnWorldHeld", spec := "fnWorldHeld", inPlace := ["internal/abi.NoEscape", "internal/bytealg.MakeNoZero"], unfollowed := true, recurses := true, named := ["loop.example/pannage/impl.whole"], apart := false, laid := [("loop.example/pannage/impl.whole", laid_loop_example_pannage_impl_whole)] }
def FnWorldHeldSaid : Prop := fnWorldHeldRow.holds Tryz.pinned (OpenSpec.ofChange fnWorldHeldSpec)

/-- ITS FALSE NEIGHBOUR: 'it returns false'. Refute it at one input. -/
def fnWorldHeldWrong : ChangeSpec := { name := "fnWorldHeld", vars := ["loop.example/pannage/impl.whole"], fn := fun _ => fun
  | [d, g1] => { results := [.lit (.bool false)], args := [d], vars := [g1] }
  | _ => none }
def FnWorldHeldWrongFalsely : Prop := fnWorldHeldRow.holds Tryz.pinned (OpenSpec.ofChange fnWorldHeldWrong)

/-- 'laws.FnWorldTwo': WHATEVER THE INPUT: true; the input reads as it did. -/
def fnWorldTwoSpec : ChangeSpec := { name := "fnWorldTwo", vars := ["loop.example/pannage/impl.whole"], fn := fun _ => fun
  | [d1, d2, g1] => { results := [.lit (.bool true)], args := [d1, d2], vars := [g1] }
  | _ => none }
def fnWorldTwoRow : OpenClaim := { program := "ytikmfpdfippjhaagreatdoor", sum := "5b0e8091905a4aa1a334d6562a058a3f81c3db210218cb9da014c3a209ef0f3d", func := "loop.example/pannage/laws.FnWorldTwo", spec := "fnWorldTwo", inPlace := ["internal/abi.NoEscape", "internal/bytealg.MakeNoZero"], unfollowed := true, recurses := true, named := ["loop.example/pannage/impl.whole"], apart := false, laid := [("loop.example/pannage/impl.whole", laid_loop_example_pannage_impl_whole)] }
def FnWorldTwoSaid : Prop := fnWorldTwoRow.holds Tryz.pinned (OpenSpec.ofChange fnWorldTwoSpec)

/-- ITS FALSE NEIGHBOUR: 'it returns false'. Refute it at one input. -/
def fnWorldTwoWrong : ChangeSpec := { name := "fnWorldTwo", vars := ["loop.example/pannage/impl.whole"], fn := fun _ => fun
  | [d1, d2, g1] => { results := [.lit (.bool false)], args := [d1, d2], vars := [g1] }
  | _ => none }
def FnWorldTwoWrongFalsely : Prop := fnWorldTwoRow.holds Tryz.pinned (OpenSpec.ofChange fnWorldTwoWrong)

/-- 'laws.FnWorldLost': WHATEVER THE INPUT: true; the input reads as it did. -/
def fnWorldLostSpec : ChangeSpec := { name := "fnWorldLost", vars := ["loop.example/pannage/impl.whole"], fn := fun _ => fun
  | [d, g1] => { results := [.lit (.bool true)], args := [d], vars := [g1] }
  | _ => none }
def fnWorldLostRow : OpenClaim := { program := "ytikmfpdfippjhaagreatdoor", sum := "5b0e8091905a4aa1a334d6562a058a3f81c3db210218cb9da014c3a209ef0f3d", func := "loop.example/pannage/laws.FnWorldLost", spec := "fnWorldLost", inPlace := ["internal/abi.NoEscape", "internal/bytealg.MakeNoZero"], unfollowed := true, recurses := true, named := ["loop.example/pannage/impl.whole"], apart := false, laid := [("loop.example/pannage/impl.whole", laid_loop_example_pannage_impl_whole)] }
def FnWorldLostSaid : Prop := fnWorldLostRow.holds Tryz.pinned (OpenSpec.ofChange fnWorldLostSpec)

/-- ITS FALSE NEIGHBOUR: 'it returns false'. Refute it at one input. -/
def fnWorldLostWrong : ChangeSpec := { name := "fnWorldLost", vars := ["loop.example/pannage/impl.whole"], fn := fun _ => fun
  | [d, g1] => { results := [.lit (.bool false)], args := [d], vars := [g1] }
  | _ => none }
def FnWorldLostWrongFalsely : Prop := fnWorldLostRow.holds Tryz.pinned (OpenSpec.ofChange fnWorldLostWrong)

/- THE SECOND FORM. 'bulk': how many values and letters a reading holds, each counted each time it is reached (what is shared counts as often as it is met; a slice's spare places count too). A statement '..UptoSaid' is the law's where the arguments, and the package variables that the reading takes, are together of bulk at most 1048576: NARROWER than '..Said'. Prove '..Said' where nothing that the law and all that it calls make is longer than what came in: it says more and counts as full. Else prove '..UptoSaid'. A law counts once. -/
mutual
def uptoBulk {H : Type} : DataW H → Nat
  | .lit (.string bytes) => bytes.length + 1
  | .lit _ => 1
  | .nil => 1
  | .ptr d => uptoBulk d + 1
  | .slice elems spare => uptoBulkAll elems + uptoBulkAll spare + 1
  | .agg parts => uptoBulkAll parts + 1
  | .iface _ d => uptoBulk d + 1
  | .map entries => uptoBulkEntries entries + 1
  | .held _ => 1
def uptoBulkAll {H : Type} : List (DataW H) → Nat
  | [] => 0
  | d :: r => uptoBulk d + uptoBulkAll r
def uptoBulkEntries {H : Type} : List (Lit × DataW H) → Nat
  | [] => 0
  | x :: r => uptoBulkEntry x + uptoBulkEntries r
def uptoBulkEntry {H : Type} : Lit × DataW H → Nat
  | (.string bytes, d) => bytes.length + uptoBulk d + 1
  | (_, d) => uptoBulk d + 1
 end
def uptoSmall : (H : Type) → List (DataW H) → Bool := fun _ ds => decide (uptoBulkAll ds ≤ 1048576)
def OpenSpec.upto (s : _root_.Go.ChangeSpec) : _root_.Go.OpenSpec := { _root_.Go.OpenSpec.ofChange s with cond := some uptoSmall }

/-- 'laws.FnWorldRead', WHERE WHAT IT READS IS OF BULK AT MOST 1048576: true; the input reads as it did. -/
def fnWorldReadUptoRow : OpenClaim := { program := "ytikmfpdfippjhaagreatdoor", sum := "5b0e8091905a4aa1a334d6562a058a3f81c3db210218cb9da014c3a209ef0f3d", func := "loop.example/pannage/laws.FnWorldRead", spec := "fnWorldRead", inPlace := ["internal/abi.NoEscape", "internal/bytealg.MakeNoZero"], unfollowed := true, recurses := true, named := ["loop.example/pannage/impl.whole"], apart := false, laid := [("loop.example/pannage/impl.whole", laid_loop_example_pannage_impl_whole)], narrowed := true }
def FnWorldReadUptoSaid : Prop := fnWorldReadUptoRow.holds Tryz.pinned (OpenSpec.upto fnWorldReadSpec)

/-- 'laws.FnWorldWrite', WHERE WHAT IT READS IS OF BULK AT MOST 1048576: true; the input reads as it did. -/
def fnWorldWriteUptoRow : OpenClaim := { program := "ytikmfpdfippjhaagreatdoor", sum := "5b0e8091905a4aa1a334d6562a058a3f81c3db210218cb9da014c3a209ef0f3d", func := "loop.example/pannage/laws.FnWorldWrite", spec := "fnWorldWrite", inPlace := ["internal/abi.NoEscape", "internal/bytealg.MakeNoZero"], unfollowed := true, recurses := true, named := ["loop.example/pannage/impl.whole"], apart := false, laid := [("loop.example/pannage/impl.whole", laid_loop_example_pannage_impl_whole)], narrowed := true }
def FnWorldWriteUptoSaid : Prop := fnWorldWriteUptoRow.holds Tryz.pinned (OpenSpec.upto fnWorldWriteSpec)

/-- 'laws.FnWorldFlush', WHERE WHAT IT READS IS OF BULK AT MOST 1048576: true; the input reads as it did. -/
def fnWorldFlushUptoRow : OpenClaim := { program := "ytikmfpdfippjhaagreatdoor", sum := "5b0e8091905a4aa1a334d6562a058a3f81c3db210218cb9da014c3a209ef0f3d", func := "loop.example/pannage/laws.FnWorldFlush", spec := "fnWorldFlush", inPlace := ["internal/abi.NoEscape", "internal/bytealg.MakeNoZero"], unfollowed := true, recurses := true, named := ["loop.example/pannage/impl.whole"], apart := false, laid := [("loop.example/pannage/impl.whole", laid_loop_example_pannage_impl_whole)], narrowed := true }
def FnWorldFlushUptoSaid : Prop := fnWorldFlushUptoRow.holds Tryz.pinned (OpenSpec.upto fnWorldFlushSpec)

/-- 'laws.FnWorldLock', WHERE WHAT IT READS IS OF BULK AT MOST 1048576: true; the input reads as it did. -/
def fnWorldLockUptoRow : OpenClaim := { program := "ytikmfpdfippjhaagreatdoor", sum := "5b0e8091905a4aa1a334d6562a058a3f81c3db210218cb9da014c3a209ef0f3d", func := "loop.example/pannage/laws.FnWorldLock", spec := "fnWorldLock", inPlace := ["internal/abi.NoEscape", "internal/bytealg.MakeNoZero"], unfollowed := true, recurses := true, named := ["loop.example/pannage/impl.whole"], apart := false, laid := [("loop.example/pannage/impl.whole", laid_loop_example_pannage_impl_whole)], narrowed := true }
def FnWorldLockUptoSaid : Prop := fnWorldLockUptoRow.holds Tryz.pinned (OpenSpec.upto fnWorldLockSpec)

/-- 'laws.FnWorldHeld', WHERE WHAT IT READS IS OF BULK AT MOST 1048576: true; the input reads as it did. -/
def fnWorldHeldUptoRow : OpenClaim := { program := "ytikmfpdfippjhaagreatdoor", sum := "5b0e8091905a4aa1a334d6562a058a3f81c3db210218cb9da014c3a209ef0f3d", func := "loop.example/pannage/laws.FnWorldHeld", spec := "fnWorldHeld", inPlace := ["internal/abi.NoEscape", "internal/bytealg.MakeNoZero"], unfollowed := true, recurses := true, named := ["loop.example/pannage/impl.whole"], apart := false, laid := [("loop.example/pannage/impl.whole", laid_loop_example_pannage_impl_whole)], narrowed := true }
def FnWorldHeldUptoSaid : Prop := fnWorldHeldUptoRow.holds Tryz.pinned (OpenSpec.upto fnWorldHeldSpec)

/-- 'laws.FnWorldTwo', WHERE WHAT IT READS IS OF BULK AT MOST 1048576: true; the input reads as it did. -/
def fnWorldTwoUptoRow : OpenClaim := { program := "ytikmfpdfippjhaagreatdoor", sum := "5b0e8091905a4aa1a334d6562a058a3f81c3db210218cb9da014c3a209ef0f3d", func := "loop.example/pannage/laws.FnWorldTwo", spec := "fnWorldTwo", inPlace := ["internal/abi.NoEscape", "internal/bytealg.MakeNoZero"], unfollowed := true, recurses := true, named := ["loop.example/pannage/impl.whole"], apart := false, laid := [("loop.example/pannage/impl.whole", laid_loop_example_pannage_impl_whole)], narrowed := true }
def FnWorldTwoUptoSaid : Prop := fnWorldTwoUptoRow.holds Tryz.pinned (OpenSpec.upto fnWorldTwoSpec)

/-- 'laws.FnWorldLost', WHERE WHAT IT READS IS OF BULK AT MOST 1048576: true; the input reads as it did. -/
def fnWorldLostUptoRow : OpenClaim := { program := "ytikmfpdfippjhaagreatdoor", sum := "5b0e8091905a4aa1a334d6562a058a3f81c3db210218cb9da014c3a209ef0f3d", func := "loop.example/pannage/laws.FnWorldLost", spec := "fnWorldLost", inPlace := ["internal/abi.NoEscape", "internal/bytealg.MakeNoZero"], unfollowed := true, recurses := true, named := ["loop.example/pannage/impl.whole"], apart := false, laid := [("loop.example/pannage/impl.whole", laid_loop_example_pannage_impl_whole)], narrowed := true }
def FnWorldLostUptoSaid : Prop := fnWorldLostUptoRow.holds Tryz.pinned (OpenSpec.upto fnWorldLostSpec)

end Rows
end Go.Proofs.YtikmfpdfippjhaaGreatDoor
