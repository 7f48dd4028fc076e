/-
  No cell of these rows narrows 'for every input' (looked for: loops, veiled, ifaces, maps, wideKeys, modest, calm, conditions, laid).
  DERIVED. THE GIVEN ROWS OF THIS SEAT. 6 by the template 'for every input the law returns true; each argument reads behind the call as it read before'; 0 by the template 'total and deterministic' (their statements: YthdaconelhffcaaTotals.lean).
  GIVEN WITH THE SEED: the statements are not yours to turn. If you find one false, say at which input.
  Laid BY PROGRAM, IN A SANDBOX (cutbox-rows.mjs): the forced cells as the released guide's own fill.sh prints them over the translation 8b81279862c2db93… (all of the seat's roots in one cut). By AI agents, Wed Nov 11 2026. No macro, syntax, notation, axiom, sorry.
-/
import Derived.Test.YthdaconelhffcaaChecked
import GoSem.Claim
import GoSem.ClaimJoined
import GoSem.ClaimMapViews
import Derived.JoinedTies
import Derived.KernelRfl
namespace Go.Proofs.Ythdaconelhffcaa
/- THE CELL 'sum', in the pinned program and in every row, IS THE sha256 OF THE DUMP (.gsa) THAT YthdaconelhffcaaProg.lean LOADS. Nothing in Lean hashes anything: it is a label: what it is worth is what the hold of that sum in a sandbox is worth. -/
noncomputable def Try.pinned : Pinned := { name := "ythdaconelhffcaa", sum := "8b81279862c2db9390e1a25e676e6ffc0b409de788105215dc1dfbc09391605b", checked := Try.checked }
namespace Rows
def none {H : Type} : Left H := { results := [], args := [] }

/-- 'laws.FnOwnTwice': WHATEVER THE INPUT: true; the input reads as it did. -/
def fnOwnTwiceSpec : ChangeSpec := { name := "fnOwnTwice", fn := fun _ => fun
  | [d] => { results := [.lit (.bool true)], args := [d] }
  | _ => none }
def fnOwnTwiceRow : OpenClaim := { program := "ythdaconelhffcaa", sum := "8b81279862c2db9390e1a25e676e6ffc0b409de788105215dc1dfbc09391605b", func := "loop.example/pannage/laws.FnOwnTwice", spec := "fnOwnTwice", inPlace := ["internal/abi.NoEscape", "internal/bytealg.MakeNoZero"], unfollowed := true, recurses := true, apart := false }
def FnOwnTwiceSaid : Prop := fnOwnTwiceRow.holds Try.pinned (OpenSpec.ofChange fnOwnTwiceSpec)

/-- ITS FALSE NEIGHBOUR: 'it returns false'. Refute it at one input. -/
def fnOwnTwiceWrong : ChangeSpec := { name := "fnOwnTwice", fn := fun _ => fun
  | [d] => { results := [.lit (.bool false)], args := [d] }
  | _ => none }
def FnOwnTwiceWrongFalsely : Prop := fnOwnTwiceRow.holds Try.pinned (OpenSpec.ofChange fnOwnTwiceWrong)

/-- 'laws.FnOwnAll': WHATEVER THE INPUT: true; the input reads as it did. -/
def fnOwnAllSpec : ChangeSpec := { name := "fnOwnAll", fn := fun _ => fun
  | [d] => { results := [.lit (.bool true)], args := [d] }
  | _ => none }
def fnOwnAllRow : OpenClaim := { program := "ythdaconelhffcaa", sum := "8b81279862c2db9390e1a25e676e6ffc0b409de788105215dc1dfbc09391605b", func := "loop.example/pannage/laws.FnOwnAll", spec := "fnOwnAll", inPlace := ["internal/abi.NoEscape", "internal/bytealg.MakeNoZero"], unfollowed := true, recurses := true, apart := false }
def FnOwnAllSaid : Prop := fnOwnAllRow.holds Try.pinned (OpenSpec.ofChange fnOwnAllSpec)

/-- ITS FALSE NEIGHBOUR: 'it returns false'. Refute it at one input. -/
def fnOwnAllWrong : ChangeSpec := { name := "fnOwnAll", fn := fun _ => fun
  | [d] => { results := [.lit (.bool false)], args := [d] }
  | _ => none }
def FnOwnAllWrongFalsely : Prop := fnOwnAllRow.holds Try.pinned (OpenSpec.ofChange fnOwnAllWrong)

/-- 'laws.FnOwnBent': WHATEVER THE INPUT: true; the input reads as it did. -/
def fnOwnBentSpec : ChangeSpec := { name := "fnOwnBent", fn := fun _ => fun
  | [d] => { results := [.lit (.bool true)], args := [d] }
  | _ => none }
def fnOwnBentRow : OpenClaim := { program := "ythdaconelhffcaa", sum := "8b81279862c2db9390e1a25e676e6ffc0b409de788105215dc1dfbc09391605b", func := "loop.example/pannage/laws.FnOwnBent", spec := "fnOwnBent", inPlace := ["internal/abi.NoEscape", "internal/bytealg.MakeNoZero"], unfollowed := true, recurses := true, apart := false }
def FnOwnBentSaid : Prop := fnOwnBentRow.holds Try.pinned (OpenSpec.ofChange fnOwnBentSpec)

/-- ITS FALSE NEIGHBOUR: 'it returns false'. Refute it at one input. -/
def fnOwnBentWrong : ChangeSpec := { name := "fnOwnBent", fn := fun _ => fun
  | [d] => { results := [.lit (.bool false)], args := [d] }
  | _ => none }
def FnOwnBentWrongFalsely : Prop := fnOwnBentRow.holds Try.pinned (OpenSpec.ofChange fnOwnBentWrong)

/-- 'laws.FnOwnWrite': WHATEVER THE INPUT: true; the input reads as it did. -/
def fnOwnWriteSpec : ChangeSpec := { name := "fnOwnWrite", fn := fun _ => fun
  | [d] => { results := [.lit (.bool true)], args := [d] }
  | _ => none }
def fnOwnWriteRow : OpenClaim := { program := "ythdaconelhffcaa", sum := "8b81279862c2db9390e1a25e676e6ffc0b409de788105215dc1dfbc09391605b", func := "loop.example/pannage/laws.FnOwnWrite", spec := "fnOwnWrite", inPlace := ["internal/abi.NoEscape", "internal/bytealg.MakeNoZero"], unfollowed := true, recurses := true, apart := false }
def FnOwnWriteSaid : Prop := fnOwnWriteRow.holds Try.pinned (OpenSpec.ofChange fnOwnWriteSpec)

/-- ITS FALSE NEIGHBOUR: 'it returns false'. Refute it at one input. -/
def fnOwnWriteWrong : ChangeSpec := { name := "fnOwnWrite", fn := fun _ => fun
  | [d] => { results := [.lit (.bool false)], args := [d] }
  | _ => none }
def FnOwnWriteWrongFalsely : Prop := fnOwnWriteRow.holds Try.pinned (OpenSpec.ofChange fnOwnWriteWrong)

/-- 'laws.FnExactWorldNew': WHATEVER THE INPUT: true; the input reads as it did. -/
def fnExactWorldNewSpec : ChangeSpec := { name := "fnExactWorldNew", fn := fun _ => fun
  | [d] => { results := [.lit (.bool true)], args := [d] }
  | _ => none }
def fnExactWorldNewRow : OpenClaim := { program := "ythdaconelhffcaa", sum := "8b81279862c2db9390e1a25e676e6ffc0b409de788105215dc1dfbc09391605b", func := "loop.example/pannage/laws.FnExactWorldNew", spec := "fnExactWorldNew", inPlace := ["internal/abi.NoEscape", "internal/bytealg.MakeNoZero"], apart := false }
def FnExactWorldNewSaid : Prop := fnExactWorldNewRow.holds Try.pinned (OpenSpec.ofChange fnExactWorldNewSpec)

/-- ITS FALSE NEIGHBOUR: 'it returns false'. Refute it at one input. -/
def fnExactWorldNewWrong : ChangeSpec := { name := "fnExactWorldNew", fn := fun _ => fun
  | [d] => { results := [.lit (.bool false)], args := [d] }
  | _ => none }
def FnExactWorldNewWrongFalsely : Prop := fnExactWorldNewRow.holds Try.pinned (OpenSpec.ofChange fnExactWorldNewWrong)

/-- 'laws.FnExactWorldSame': WHATEVER THE INPUT: true; the input reads as it did. -/
def fnExactWorldSameSpec : ChangeSpec := { name := "fnExactWorldSame", fn := fun _ => fun
  | [d1, d2] => { results := [.lit (.bool true)], args := [d1, d2] }
  | _ => none }
def fnExactWorldSameRow : OpenClaim := { program := "ythdaconelhffcaa", sum := "8b81279862c2db9390e1a25e676e6ffc0b409de788105215dc1dfbc09391605b", func := "loop.example/pannage/laws.FnExactWorldSame", spec := "fnExactWorldSame", unfollowed := true, recurses := true, apart := false }
def FnExactWorldSameSaid : Prop := fnExactWorldSameRow.holds Try.pinned (OpenSpec.ofChange fnExactWorldSameSpec)

/-- ITS FALSE NEIGHBOUR: 'it returns false'. Refute it at one input. -/
def fnExactWorldSameWrong : ChangeSpec := { name := "fnExactWorldSame", fn := fun _ => fun
  | [d1, d2] => { results := [.lit (.bool false)], args := [d1, d2] }
  | _ => none }
def FnExactWorldSameWrongFalsely : Prop := fnExactWorldSameRow.holds Try.pinned (OpenSpec.ofChange fnExactWorldSameWrong)

/- THE SECOND FORM. 'bulk': how many values and letters a reading holds, each counted each time it is reached (what is shared counts as often as it is met; a slice's spare places count too). A statement '..UptoSaid' is the law's where the arguments, and the package variables that the reading takes, are together of bulk at most 1048576: NARROWER than '..Said'. Prove '..Said' where nothing that the law and all that it calls make is longer than what came in: it says more and counts as full. Else prove '..UptoSaid'. A law counts once. -/
mutual
def uptoBulk {H : Type} : DataW H → Nat
  | .lit (.string bytes) => bytes.length + 1
  | .lit _ => 1
  | .nil => 1
  | .ptr d => uptoBulk d + 1
  | .slice elems spare => uptoBulkAll elems + uptoBulkAll spare + 1
  | .agg parts => uptoBulkAll parts + 1
  | .iface _ d => uptoBulk d + 1
  | .map entries => uptoBulkEntries entries + 1
  | .held _ => 1
def uptoBulkAll {H : Type} : List (DataW H) → Nat
  | [] => 0
  | d :: r => uptoBulk d + uptoBulkAll r
def uptoBulkEntries {H : Type} : List (Lit × DataW H) → Nat
  | [] => 0
  | x :: r => uptoBulkEntry x + uptoBulkEntries r
def uptoBulkEntry {H : Type} : Lit × DataW H → Nat
  | (.string bytes, d) => bytes.length + uptoBulk d + 1
  | (_, d) => uptoBulk d + 1
 end
def uptoSmall : (H : Type) → List (DataW H) → Bool := fun _ ds => decide (uptoBulkAll ds ≤ 1048576)
def OpenSpec.upto (s : _root_.Go.ChangeSpec) : _root_.Go.OpenSpec := { _root_.Go.OpenSpec.ofChange s with cond := some uptoSmall }

/-- 'laws.FnOwnTwice', WHERE WHAT IT READS IS OF BULK AT MOST 1048576: true; the input reads as it did. -/
def fnOwnTwiceUptoRow : OpenClaim := { program := "ythdaconelhffcaa", sum := "8b81279862c2db9390e1a25e676e6ffc0b409de788105215dc1dfbc09391605b", func := "loop.example/pannage/laws.FnOwnTwice", spec := "fnOwnTwice", inPlace := ["internal/abi.NoEscape", "internal/bytealg.MakeNoZero"], unfollowed := true, recurses := true, apart := false, narrowed := true }
def FnOwnTwiceUptoSaid : Prop := fnOwnTwiceUptoRow.holds Try.pinned (OpenSpec.upto fnOwnTwiceSpec)

/-- 'laws.FnOwnAll', WHERE WHAT IT READS IS OF BULK AT MOST 1048576: true; the input reads as it did. -/
def fnOwnAllUptoRow : OpenClaim := { program := "ythdaconelhffcaa", sum := "8b81279862c2db9390e1a25e676e6ffc0b409de788105215dc1dfbc09391605b", func := "loop.example/pannage/laws.FnOwnAll", spec := "fnOwnAll", inPlace := ["internal/abi.NoEscape", "internal/bytealg.MakeNoZero"], unfollowed := true, recurses := true, apart := false, narrowed := true }
def FnOwnAllUptoSaid : Prop := fnOwnAllUptoRow.holds Try.pinned (OpenSpec.upto fnOwnAllSpec)

/-- 'laws.FnOwnBent', WHERE WHAT IT READS IS OF BULK AT MOST 1048576: true; the input reads as it did. -/
def fnOwnBentUptoRow : OpenClaim := { program := "ythdaconelhffcaa", sum := "8b81279862c2db9390e1a25e676e6ffc0b409de788105215dc1dfbc09391605b", func := "loop.example/pannage/laws.FnOwnBent", spec := "fnOwnBent", inPlace := ["internal/abi.NoEscape", "internal/bytealg.MakeNoZero"], unfollowed := true, recurses := true, apart := false, narrowed := true }
def FnOwnBentUptoSaid : Prop := fnOwnBentUptoRow.holds Try.pinned (OpenSpec.upto fnOwnBentSpec)

/-- 'laws.FnOwnWrite', WHERE WHAT IT READS IS OF BULK AT MOST 1048576: true; the input reads as it did. -/
def fnOwnWriteUptoRow : OpenClaim := { program := "ythdaconelhffcaa", sum := "8b81279862c2db9390e1a25e676e6ffc0b409de788105215dc1dfbc09391605b", func := "loop.example/pannage/laws.FnOwnWrite", spec := "fnOwnWrite", inPlace := ["internal/abi.NoEscape", "internal/bytealg.MakeNoZero"], unfollowed := true, recurses := true, apart := false, narrowed := true }
def FnOwnWriteUptoSaid : Prop := fnOwnWriteUptoRow.holds Try.pinned (OpenSpec.upto fnOwnWriteSpec)

/-- 'laws.FnExactWorldNew', WHERE WHAT IT READS IS OF BULK AT MOST 1048576: true; the input reads as it did. -/
def fnExactWorldNewUptoRow : OpenClaim := { program := "ythdaconelhffcaa", sum := "8b81279862c2db9390e1a25e676e6ffc0b409de788105215dc1dfbc09391605b", func := "loop.example/pannage/laws.FnExactWorldNew", spec := "fnExactWorldNew", inPlace := ["internal/abi.NoEscape", "internal/bytealg.MakeNoZero"], apart := false, narrowed := true }
def FnExactWorldNewUptoSaid : Prop := fnExactWorldNewUptoRow.holds Try.pinned (OpenSpec.upto fnExactWorldNewSpec)

/-- 'laws.FnExactWorldSame', WHERE WHAT IT READS IS OF BULK AT MOST 1048576: true; the input reads as it did. -/
def fnExactWorldSameUptoRow : OpenClaim := { program := "ythdaconelhffcaa", sum := "8b81279862c2db9390e1a25e676e6ffc0b409de788105215dc1dfbc09391605b", func := "loop.example/pannage/laws.FnExactWorldSame", spec := "fnExactWorldSame", unfollowed := true, recurses := true, apart := false, narrowed := true }
def FnExactWorldSameUptoSaid : Prop := fnExactWorldSameUptoRow.holds Try.pinned (OpenSpec.upto fnExactWorldSameSpec)

end Rows
end Go.Proofs.Ythdaconelhffcaa
