/- My texts joined: EvS37. No condition. -/
import Derived.Test.YtngbcdcghbapnaaGreatDoorEn1
import Derived.Laws.StructEq
import Derived.ChangeKeysEq
import Derived.DataReads
set_option linter.unusedVariables false
set_option linter.unusedSimpArgs false

namespace Go.Ev
theorem ints_rep {w:World} {k:IntKind} (o:Bool):∀ (zs:List Int),RepLs w o (zs.map fun z=>Value.int k z) (zs.map fun z=>L.int k z) []
 | []=>.nil o
 | z::zs=>.cons o _ _ _ _ [] [] (.int o k z) (ints_rep o zs)
end Go.Ev

