/- The law DecideCodes of layer 36: all its ways end with true. -/
import Derived.Test.YthbfjnmdjehljaaDoorDcE
namespace Go.Proofs.YthbfjnmdjehljaaDoor
open Go Go.RowKit SX
set_option linter.unusedVariables false
def codSh : List Ph := [.sh dsSh, .sl portLk]
set_option maxRecDepth 1000000 in
theorem cod_tree1 : (lawT 3 codSh (isLen (phSize codSh) 1)).all isTrueF = true := by kernel_rfl
set_option maxRecDepth 1000000 in
theorem cod_tree2 : (lawT 3 codSh (isLen (phSize codSh) 2)).all isTrueF = true := by kernel_rfl
set_option maxRecDepth 1000000 in
theorem cod_tree3 : (lawT 3 codSh (isLen (phSize codSh) 3)).all isTrueF = true := by kernel_rfl
set_option maxRecDepth 1000000 in
theorem cod_tree4 : (lawT 3 codSh (isLen (phSize codSh) 4)).all isTrueF = true := by kernel_rfl
set_option maxRecDepth 1000000 in
theorem cod_tree5 : (lawT 3 codSh (isLen (phSize codSh) 5)).all isTrueF = true := by kernel_rfl
set_option maxRecDepth 1000000 in
theorem cod_tree6 : (lawT 3 codSh (isLen (phSize codSh) 6)).all isTrueF = true := by kernel_rfl
set_option maxRecDepth 1000000 in
theorem cod_tree7 : (lawT 3 codSh (isLen (phSize codSh) 7)).all isTrueF = true := by kernel_rfl
set_option maxRecDepth 1000000 in
theorem cod_tree8 : (lawT 3 codSh (isLen (phSize codSh) 8)).all isTrueF = true := by kernel_rfl
set_option maxRecDepth 1000000 in
theorem cod_treeG : (lawT 3 codSh [(lt0 (.lit 8) (.var (phSize codSh)), true)]).all isTrueF = true := by kernel_rfl
set_option maxRecDepth 1000000 in
theorem cod_treeE : (lawE 3 codSh).all isTrueF = true := by kernel_rfl
set_option maxRecDepth 1000000 in
theorem cod_treeN : (lawN 3 codSh).all isTrueF = true := by kernel_rfl
theorem cod_pays (ns : List Int) (ss : List Value) (hf : phFits codSh ns) (hl : ns.length = phSize codSh) (w : World) (hss : slFits w codSh ss) (ht : TabsIn tabs36 w) : Calls Tryd.prog 3 (phVals codSh ns ss).toArray w fun e w' => e = .returned (.bool true) ∧ Below w.heap.size w w' :=
  law_by_trees rfl rfl (by decide) ht hf hl hss (one_to_8 cod_tree1 cod_tree2 cod_tree3 cod_tree4 cod_tree5 cod_tree6 cod_tree7 cod_tree8) cod_treeG cod_treeE cod_treeN
end Go.Proofs.YthbfjnmdjehljaaDoor
