/-
  No cell of these rows narrows 'for every input' (looked for: loops, veiled, ifaces, maps, wideKeys, modest, calm, conditions, laid).
  DERIVED. THE GIVEN ROWS OF THIS SEAT. 5 by the template 'for every input the law returns true; each argument reads behind the call as it read before'; 0 by the template 'total and deterministic' (their statements: YtehlceiadmkbbaaTotals.lean).
  GIVEN WITH THE SEED: the statements are not yours to turn. If you find one false, say at which input.
  Laid BY PROGRAM, IN A SANDBOX (cutbox-rows.mjs): the forced cells as the released guide's own fill.sh prints them over the translation aa193e33c42400e5… (all of the seat's roots in one cut). By AI agents, Wed Nov 11 2026. No macro, syntax, notation, axiom, sorry.
-/
import Derived.Test.YtehlceiadmkbbaaChecked
import GoSem.Claim
import GoSem.ClaimJoined
import GoSem.ClaimMapViews
import Derived.JoinedTies
import Derived.KernelRfl
namespace Go.Proofs.Ytehlceiadmkbbaa
/- THE CELL 'sum', in the pinned program and in every row, IS THE sha256 OF THE DUMP (.gsa) THAT YtehlceiadmkbbaaProg.lean LOADS. Nothing in Lean hashes anything: it is a label: what it is worth is what the hold of that sum in a sandbox is worth. -/
noncomputable def Try.pinned : Pinned := { name := "ytehlceiadmkbbaa", sum := "aa193e33c42400e5f86ee88e5598253959699ab847cd1c710b0ca023ecd011ec", checked := Try.checked }
namespace Rows
def none {H : Type} : Left H := { results := [], args := [] }

/-- 'laws.FnOwnFill': WHATEVER THE INPUT: true; the input reads as it did. -/
def fnOwnFillSpec : ChangeSpec := { name := "fnOwnFill", fn := fun _ => fun
  | [d] => { results := [.lit (.bool true)], args := [d] }
  | _ => none }
def fnOwnFillRow : OpenClaim := { program := "ytehlceiadmkbbaa", sum := "aa193e33c42400e5f86ee88e5598253959699ab847cd1c710b0ca023ecd011ec", func := "loop.example/pannage/laws.FnOwnFill", spec := "fnOwnFill", unfollowed := true, recurses := true, apart := false }
def FnOwnFillSaid : Prop := fnOwnFillRow.holds Try.pinned (OpenSpec.ofChange fnOwnFillSpec)

/-- ITS FALSE NEIGHBOUR: 'it returns false'. Refute it at one input. -/
def fnOwnFillWrong : ChangeSpec := { name := "fnOwnFill", fn := fun _ => fun
  | [d] => { results := [.lit (.bool false)], args := [d] }
  | _ => none }
def FnOwnFillWrongFalsely : Prop := fnOwnFillRow.holds Try.pinned (OpenSpec.ofChange fnOwnFillWrong)

/-- 'laws.FnOwnKept': WHATEVER THE INPUT: true; the input reads as it did. -/
def fnOwnKeptSpec : ChangeSpec := { name := "fnOwnKept", fn := fun _ => fun
  | [d1, d2] => { results := [.lit (.bool true)], args := [d1, d2] }
  | _ => none }
def fnOwnKeptRow : OpenClaim := { program := "ytehlceiadmkbbaa", sum := "aa193e33c42400e5f86ee88e5598253959699ab847cd1c710b0ca023ecd011ec", func := "loop.example/pannage/laws.FnOwnKept", spec := "fnOwnKept", unfollowed := true, recurses := true, apart := false }
def FnOwnKeptSaid : Prop := fnOwnKeptRow.holds Try.pinned (OpenSpec.ofChange fnOwnKeptSpec)

/-- ITS FALSE NEIGHBOUR: 'it returns false'. Refute it at one input. -/
def fnOwnKeptWrong : ChangeSpec := { name := "fnOwnKept", fn := fun _ => fun
  | [d1, d2] => { results := [.lit (.bool false)], args := [d1, d2] }
  | _ => none }
def FnOwnKeptWrongFalsely : Prop := fnOwnKeptRow.holds Try.pinned (OpenSpec.ofChange fnOwnKeptWrong)

/-- 'laws.FnOwnClean': WHATEVER THE INPUT: true; the input reads as it did. -/
def fnOwnCleanSpec : ChangeSpec := { name := "fnOwnClean", fn := fun _ => fun
  | [d] => { results := [.lit (.bool true)], args := [d] }
  | _ => none }
def fnOwnCleanRow : OpenClaim := { program := "ytehlceiadmkbbaa", sum := "aa193e33c42400e5f86ee88e5598253959699ab847cd1c710b0ca023ecd011ec", func := "loop.example/pannage/laws.FnOwnClean", spec := "fnOwnClean", unfollowed := true, recurses := true, apart := false }
def FnOwnCleanSaid : Prop := fnOwnCleanRow.holds Try.pinned (OpenSpec.ofChange fnOwnCleanSpec)

/-- ITS FALSE NEIGHBOUR: 'it returns false'. Refute it at one input. -/
def fnOwnCleanWrong : ChangeSpec := { name := "fnOwnClean", fn := fun _ => fun
  | [d] => { results := [.lit (.bool false)], args := [d] }
  | _ => none }
def FnOwnCleanWrongFalsely : Prop := fnOwnCleanRow.holds Try.pinned (OpenSpec.ofChange fnOwnCleanWrong)

/-- 'laws.FnOwnDrop': WHATEVER THE INPUT: true; the input reads as it did. -/
def fnOwnDropSpec : ChangeSpec := { name := "fnOwnDrop", fn := fun _ => fun
  | [d] => { results := [.lit (.bool true)], args := [d] }
  | _ => none }
def fnOwnDropRow : OpenClaim := { program := "ytehlceiadmkbbaa", sum := "aa193e33c42400e5f86ee88e5598253959699ab847cd1c710b0ca023ecd011ec", func := "loop.example/pannage/laws.FnOwnDrop", spec := "fnOwnDrop", unfollowed := true, recurses := true, apart := false }
def FnOwnDropSaid : Prop := fnOwnDropRow.holds Try.pinned (OpenSpec.ofChange fnOwnDropSpec)

/-- ITS FALSE NEIGHBOUR: 'it returns false'. Refute it at one input. -/
def fnOwnDropWrong : ChangeSpec := { name := "fnOwnDrop", fn := fun _ => fun
  | [d] => { results := [.lit (.bool false)], args := [d] }
  | _ => none }
def FnOwnDropWrongFalsely : Prop := fnOwnDropRow.holds Try.pinned (OpenSpec.ofChange fnOwnDropWrong)

/-- 'laws.FnOwnPatches': WHATEVER THE INPUT: true; the input reads as it did. -/
def fnOwnPatchesSpec : ChangeSpec := { name := "fnOwnPatches", fn := fun _ => fun
  | [d] => { results := [.lit (.bool true)], args := [d] }
  | _ => none }
def fnOwnPatchesRow : OpenClaim := { program := "ytehlceiadmkbbaa", sum := "aa193e33c42400e5f86ee88e5598253959699ab847cd1c710b0ca023ecd011ec", func := "loop.example/pannage/laws.FnOwnPatches", spec := "fnOwnPatches", inPlace := ["internal/abi.NoEscape", "internal/bytealg.MakeNoZero"], apart := false }
def FnOwnPatchesSaid : Prop := fnOwnPatchesRow.holds Try.pinned (OpenSpec.ofChange fnOwnPatchesSpec)

/-- ITS FALSE NEIGHBOUR: 'it returns false'. Refute it at one input. -/
def fnOwnPatchesWrong : ChangeSpec := { name := "fnOwnPatches", fn := fun _ => fun
  | [d] => { results := [.lit (.bool false)], args := [d] }
  | _ => none }
def FnOwnPatchesWrongFalsely : Prop := fnOwnPatchesRow.holds Try.pinned (OpenSpec.ofChange fnOwnPatchesWrong)

/- THE SECOND FORM. 'bulk': how many values and letters a reading holds, each counted each time it is reached (what is shared counts as often as it is met; a slice's spare places count too). A statement '..UptoSaid' is the law's where the arguments, and the package variables that the reading takes, are together of bulk at most 1048576: NARROWER than '..Said'. Prove '..Said' where nothing that the law and all that it calls make is longer than what came in: it says more and counts as full. Else prove '..UptoSaid'. A law counts once. -/
mutual
def uptoBulk {H : Type} : DataW H → Nat
  | .lit (.string bytes) => bytes.length + 1
  | .lit _ => 1
  | .nil => 1
  | .ptr d => uptoBulk d + 1
  | .slice elems spare => uptoBulkAll elems + uptoBulkAll spare + 1
  | .agg parts => uptoBulkAll parts + 1
  | .iface _ d => uptoBulk d + 1
  | .map entries => uptoBulkEntries entries + 1
  | .held _ => 1
def uptoBulkAll {H : Type} : List (DataW H) → Nat
  | [] => 0
  | d :: r => uptoBulk d + uptoBulkAll r
def uptoBulkEntries {H : Type} : List (Lit × DataW H) → Nat
  | [] => 0
  | x :: r => uptoBulkEntry x + uptoBulkEntries r
def uptoBulkEntry {H : Type} : Lit × DataW H → Nat
  | (.string bytes, d) => bytes.length + uptoBulk d + 1
  | (_, d) => uptoBulk d + 1
 end
def uptoSmall : (H : Type) → List (DataW H) → Bool := fun _ ds => decide (uptoBulkAll ds ≤ 1048576)
def OpenSpec.upto (s : _root_.Go.ChangeSpec) : _root_.Go.OpenSpec := { _root_.Go.OpenSpec.ofChange s with cond := some uptoSmall }

/-- 'laws.FnOwnFill', WHERE WHAT IT READS IS OF BULK AT MOST 1048576: true; the input reads as it did. -/
def fnOwnFillUptoRow : OpenClaim := { program := "ytehlceiadmkbbaa", sum := "aa193e33c42400e5f86ee88e5598253959699ab847cd1c710b0ca023ecd011ec", func := "loop.example/pannage/laws.FnOwnFill", spec := "fnOwnFill", unfollowed := true, recurses := true, apart := false, narrowed := true }
def FnOwnFillUptoSaid : Prop := fnOwnFillUptoRow.holds Try.pinned (OpenSpec.upto fnOwnFillSpec)

/-- 'laws.FnOwnKept', WHERE WHAT IT READS IS OF BULK AT MOST 1048576: true; the input reads as it did. -/
def fnOwnKeptUptoRow : OpenClaim := { program := "ytehlceiadmkbbaa", sum := "aa193e33c42400e5f86ee88e5598253959699ab847cd1c710b0ca023ecd011ec", func := "loop.example/pannage/laws.FnOwnKept", spec := "fnOwnKept", unfollowed := true, recurses := true, apart := false, narrowed := true }
def FnOwnKeptUptoSaid : Prop := fnOwnKeptUptoRow.holds Try.pinned (OpenSpec.upto fnOwnKeptSpec)

/-- 'laws.FnOwnClean', WHERE WHAT IT READS IS OF BULK AT MOST 1048576: true; the input reads as it did. -/
def fnOwnCleanUptoRow : OpenClaim := { program := "ytehlceiadmkbbaa", sum := "aa193e33c42400e5f86ee88e5598253959699ab847cd1c710b0ca023ecd011ec", func := "loop.example/pannage/laws.FnOwnClean", spec := "fnOwnClean", unfollowed := true, recurses := true, apart := false, narrowed := true }
def FnOwnCleanUptoSaid : Prop := fnOwnCleanUptoRow.holds Try.pinned (OpenSpec.upto fnOwnCleanSpec)

/-- 'laws.FnOwnDrop', WHERE WHAT IT READS IS OF BULK AT MOST 1048576: true; the input reads as it did. -/
def fnOwnDropUptoRow : OpenClaim := { program := "ytehlceiadmkbbaa", sum := "aa193e33c42400e5f86ee88e5598253959699ab847cd1c710b0ca023ecd011ec", func := "loop.example/pannage/laws.FnOwnDrop", spec := "fnOwnDrop", unfollowed := true, recurses := true, apart := false, narrowed := true }
def FnOwnDropUptoSaid : Prop := fnOwnDropUptoRow.holds Try.pinned (OpenSpec.upto fnOwnDropSpec)

/-- 'laws.FnOwnPatches', WHERE WHAT IT READS IS OF BULK AT MOST 1048576: true; the input reads as it did. -/
def fnOwnPatchesUptoRow : OpenClaim := { program := "ytehlceiadmkbbaa", sum := "aa193e33c42400e5f86ee88e5598253959699ab847cd1c710b0ca023ecd011ec", func := "loop.example/pannage/laws.FnOwnPatches", spec := "fnOwnPatches", inPlace := ["internal/abi.NoEscape", "internal/bytealg.MakeNoZero"], apart := false, narrowed := true }
def FnOwnPatchesUptoSaid : Prop := fnOwnPatchesUptoRow.holds Try.pinned (OpenSpec.upto fnOwnPatchesSpec)

end Rows
end Go.Proofs.Ytehlceiadmkbbaa
