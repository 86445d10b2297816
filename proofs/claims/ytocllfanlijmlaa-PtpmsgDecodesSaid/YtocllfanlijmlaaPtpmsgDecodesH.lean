/- The law PtpmsgDecodes of layer 33: the shapes of its parameters. -/
import Derived.Test.YtocllfanlijmlaaPm2
namespace Go.Proofs.Ytocllfanlijmlaa
open Go Go.RowKit SX
set_option linter.unusedVariables false
def decSh : List Ph := [.sl [.int .u8]]
end Go.Proofs.Ytocllfanlijmlaa
