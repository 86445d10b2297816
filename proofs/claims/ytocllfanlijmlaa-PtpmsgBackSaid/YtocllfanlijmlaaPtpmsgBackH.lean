/- The law PtpmsgBack of layer 33: the shapes of its parameters. -/
import Derived.Test.YtocllfanlijmlaaPm0
namespace Go.Proofs.Ytocllfanlijmlaa
open Go Go.RowKit SX
set_option linter.unusedVariables false
def bckSh : List Sh := [ptSh, .one (.int .u8)]
end Go.Proofs.Ytocllfanlijmlaa
