/- The law PtpmsgCanonical of layer 33: all its ways end with true, case by case. -/
import Derived.Test.YtocllfanlijmlaaPtpmsgCanonicalT0
import Derived.Test.YtocllfanlijmlaaPtpmsgCanonicalT1
import Derived.Test.YtocllfanlijmlaaPtpmsgCanonicalT2
import Derived.Test.YtocllfanlijmlaaPtpmsgCanonicalT3
import Derived.Test.YtocllfanlijmlaaPtpmsgCanonicalT4
import Derived.Test.YtocllfanlijmlaaPtpmsgCanonicalT5
namespace Go.Proofs.Ytocllfanlijmlaa
open Go Go.RowKit SX
set_option linter.unusedVariables false

theorem can_pays (ns : List Int) (ss : List Value) (hf : phFits canSh ns) (hl : ns.length = phSize canSh) (w : World) (hss : slFits w canSh ss) : Calls Try.prog 6 (phVals canSh ns ss).toArray w fun e w' => e = .returned (.bool true) ∧ Below w.heap.size w w' :=
  pays_slice (F := namesB) [] (by decide) mixed okF_ok rfl (tabs_nil w) (fun ns A => sumsC_ok _ rfl w) (.split (E.bin .eq .i64 (.rd 0 4 (.lit 0)) (.lit 0)) .leaf (.split (E.bin .eq .i64 (.rd 0 4 (.lit 0)) (.lit 1)) .leaf (.split (E.bin .eq .i64 (.rd 0 4 (.lit 0)) (.lit 2)) .leaf (.split (E.bin .eq .i64 (.rd 0 4 (.lit 0)) (.lit 3)) .leaf (.split (E.bin .eq .i64 (.rd 0 4 (.lit 0)) (.lit 8)) .leaf (.split (E.bin .eq .i64 (.rd 0 4 (.lit 0)) (.lit 9)) .leaf (.split (E.bin .eq .i64 (.rd 0 4 (.lit 0)) (.lit 10)) .leaf (.split (E.bin .eq .i64 (.rd 0 4 (.lit 0)) (.lit 11)) .leaf .leaf)))))))) (CT.mk2 (CT.mk0 can_tree0) (CT.mk2 (CT.mk0 can_tree1) (CT.mk2 (CT.mk0 can_tree2) (CT.mk2 (CT.mk0 can_tree3) (CT.mk2 (CT.mk0 can_tree4) (CT.mk2 (CT.mk0 can_tree5) (CT.mk2 (CT.mk0 can_tree6) (CT.mk2 (CT.mk0 can_tree7) (CT.mk0 can_tree8))))))))) can_treeE can_treeN ns ss hf hl hss
end Go.Proofs.Ytocllfanlijmlaa
