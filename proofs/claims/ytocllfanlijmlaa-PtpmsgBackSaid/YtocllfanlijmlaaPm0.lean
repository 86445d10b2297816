/- Layer 33: the examples alone have a name. -/
import Derived.Test.YtocllfanlijmlaaPm
namespace Go.Proofs.Ytocllfanlijmlaa
open Go Go.RowKit SX
set_option linter.unusedVariables false
def sums0 : Sums := sumsA 13 []
theorem sums0_ok (ρ : Env) (w : World) : SumsOk Try.prog ρ w (fun _ => False) sums0 := sumsA_ok (fun w' hk => awake_sx w') fun s hs => by cases hs
end Go.Proofs.Ytocllfanlijmlaa
