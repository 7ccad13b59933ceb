-- Written by plus.py, this session's own program.
import Derived.Test.YtnmalfbjdhgicaaDoorProg
import Derived.Below
import Derived.Deep.Draws
import Derived.Deep.AppendLies
import Derived.Maps.AppendAt
import Derived.OwnWalk
import Derived.Laws.BytesArg
import Derived.Laws.MakeOwn
import Derived.Laws.OwnMore
import Derived.Deep.OwnRows
import Derived.Tactics
import Derived.Lib.ConvBytes
import Derived.Laws.Slices
import Derived.WalkKit
import Derived.KernelRfl
import Derived.RowKit3
import Derived.Deep.LoopGhost
import Derived.Deep.QuietTactic
import Derived.BigQuiet
import Derived.WideLaws
import Derived.Deep.DeepCutAuto
import Derived.Deep.CutBlock
import Derived.Deep.RegionHeld3
import Derived.Laws.Rows
import Derived.Lib.AppendStr
import Derived.ArgAppend
import Derived.Laws.IdiomCopy
import Derived.OrdersHeld
import Derived.Laws.BitsLemmas
import Derived.RowKit
import Derived.Lib.SliceRun
import Derived.Shelf.Strings.SlTrimAscii
import Derived.Shelf.Strconv.ParseIntPublic10
import Derived.Lib.ParseIntB
import Derived.Lib.SlTrimSet
import Derived.Laws.Strings
import Derived.Test.YtnmalfbjdhgicaaDoorVNOWords
import Derived.Test.YtnmalfbjdhgicaaDoorVNOLast
import Derived.Test.YtnmalfbjdhgicaaDoorVNOTab
import Derived.Test.YtnmalfbjdhgicaaDoorVNOFour
import Derived.Test.YtnmalfbjdhgicaaDoorVNOQPut
import Derived.Test.YtnmalfbjdhgicaaDoorVNOApart
import Derived.Test.YtnmalfbjdhgicaaDoorVNOArr
import Derived.Test.YtnmalfbjdhgicaaDoorVNOZeros
import Derived.Test.YtnmalfbjdhgicaaDoorVNOFoot
import Derived.Test.YtnmalfbjdhgicaaDoorVNOKept
import Derived.Test.YtnmalfbjdhgicaaDoorVNOShare
import Derived.Test.YtnmalfbjdhgicaaDoorVNON
import Derived.Test.YtnmalfbjdhgicaaDoorVNOFootNe
import Derived.Test.YtnmalfbjdhgicaaDoorVNOAt
import Derived.Test.YtnmalfbjdhgicaaDoorVNOEqStruct
import Derived.Test.YtnmalfbjdhgicaaDoorVNORepsOne
import Derived.Test.YtnmalfbjdhgicaaDoorVNOInv
import Derived.Test.YtnmalfbjdhgicaaDoorVNOInvWords
import Derived.Test.YtnmalfbjdhgicaaDoorVNOGuard
import Derived.Test.YtnmalfbjdhgicaaDoorVNONEv
import Derived.Test.YtnmalfbjdhgicaaDoorVNOMore
namespace Go.Proofs.YtnmalfbjdhgicaaDoor.PA
open Go.RowKit Go.Proofs.YtnmalfbjdhgicaaDoorW.PrintWords Go.Proofs.YtnmalfbjdhgicaaDoorW.PrintLast Go.Proofs.YtnmalfbjdhgicaaDoorW.PrintMore
attribute [local go_sem] max2_int min2_int max_two min_two max_three min_three max_four min_four   -- for this text's walks alone
set_option linter.unusedVariables false
set_option linter.unusedSimpArgs false



def errW : Option Int → Value
  | none => .nilIface
  | some c => .iface 47 (.int .i64 c)
theorem errW_none : errW none = .nilIface := rfl
theorem errW_some (c : Int) : errW (some c) = .iface 47 (.int .i64 c) := rfl

-- the values' own types

end Go.Proofs.YtnmalfbjdhgicaaDoor.PA
