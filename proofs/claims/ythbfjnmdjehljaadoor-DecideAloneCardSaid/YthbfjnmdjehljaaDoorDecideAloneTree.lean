/- The law DecideAlone of layer 36: all its ways end with true. -/
import Derived.Test.YthbfjnmdjehljaaDoorDecideAloneH
namespace Go.Proofs.YthbfjnmdjehljaaDoor
open Go Go.RowKit SX
set_option linter.unusedVariables false
set_option maxRecDepth 1000000 in
theorem aln_tree1_true : (alnT (alnF 1 true ++ isLen 11 1)).all isTrueF = true := by kernel_rfl
set_option maxRecDepth 1000000 in
theorem aln_tree1_false : (alnT (alnF 1 false ++ isLen 11 1)).all isTrueF = true := by kernel_rfl
set_option maxRecDepth 1000000 in
theorem aln_tree2_true : (alnT (alnF 2 true ++ isLen 11 2)).all isTrueF = true := by kernel_rfl
set_option maxRecDepth 1000000 in
theorem aln_tree2_false : (alnT (alnF 2 false ++ isLen 11 2)).all isTrueF = true := by kernel_rfl
set_option maxRecDepth 1000000 in
theorem aln_tree3_true : (alnT (alnF 3 true ++ isLen 11 3)).all isTrueF = true := by kernel_rfl
set_option maxRecDepth 1000000 in
theorem aln_tree3_false : (alnT (alnF 3 false ++ isLen 11 3)).all isTrueF = true := by kernel_rfl
set_option maxRecDepth 1000000 in
theorem aln_tree4_true : (alnT (alnF 4 true ++ isLen 11 4)).all isTrueF = true := by kernel_rfl
set_option maxRecDepth 1000000 in
theorem aln_tree4_false : (alnT (alnF 4 false ++ isLen 11 4)).all isTrueF = true := by kernel_rfl
set_option maxRecDepth 1000000 in
theorem aln_tree5_true : (alnT (alnF 5 true ++ isLen 11 5)).all isTrueF = true := by kernel_rfl
set_option maxRecDepth 1000000 in
theorem aln_tree5_false : (alnT (alnF 5 false ++ isLen 11 5)).all isTrueF = true := by kernel_rfl
set_option maxRecDepth 1000000 in
theorem aln_tree6_true : (alnT (alnF 6 true ++ isLen 11 6)).all isTrueF = true := by kernel_rfl
set_option maxRecDepth 1000000 in
theorem aln_tree6_false : (alnT (alnF 6 false ++ isLen 11 6)).all isTrueF = true := by kernel_rfl
set_option maxRecDepth 1000000 in
theorem aln_tree7_true : (alnT (alnF 7 true ++ isLen 11 7)).all isTrueF = true := by kernel_rfl
set_option maxRecDepth 1000000 in
theorem aln_tree7_false : (alnT (alnF 7 false ++ isLen 11 7)).all isTrueF = true := by kernel_rfl
set_option maxRecDepth 1000000 in
theorem aln_tree8_true : (alnT (alnF 8 true ++ isLen 11 8)).all isTrueF = true := by kernel_rfl
set_option maxRecDepth 1000000 in
theorem aln_tree8_false : (alnT (alnF 8 false ++ isLen 11 8)).all isTrueF = true := by kernel_rfl
set_option maxRecDepth 1000000 in
theorem aln_treeG : (alnT [(lt0 (.lit 8) (.var 11), true)]).all isTrueF = true := by kernel_rfl
set_option maxRecDepth 1000000 in
theorem aln_treeE : (lawE 6 alnSh).all isTrueF = true := by kernel_rfl
set_option maxRecDepth 1000000 in
theorem aln_treeN : (lawN 6 alnSh).all isTrueF = true := by kernel_rfl
theorem aln_all : ∀ m, 1 ≤ m → m ≤ 8 → ∀ lo, (alnT (alnF m lo ++ isLen 11 m)).all isTrueF = true :=
  one_to_8 (fun lo => match lo with | true => aln_tree1_true | false => aln_tree1_false) (fun lo => match lo with | true => aln_tree2_true | false => aln_tree2_false) (fun lo => match lo with | true => aln_tree3_true | false => aln_tree3_false) (fun lo => match lo with | true => aln_tree4_true | false => aln_tree4_false) (fun lo => match lo with | true => aln_tree5_true | false => aln_tree5_false) (fun lo => match lo with | true => aln_tree6_true | false => aln_tree6_false) (fun lo => match lo with | true => aln_tree7_true | false => aln_tree7_false) (fun lo => match lo with | true => aln_tree8_true | false => aln_tree8_false)
theorem aln_pays (ns : List Int) (ss : List Value) (hf : phFits alnSh ns) (hl : ns.length = phSize alnSh) (w : World) (hss : slFits w alnSh ss) (ht : TabsIn tabs36 w) : Calls Tryd.prog 6 (phVals alnSh ns ss).toArray w fun e w' => e = .returned (.bool true) ∧ Below w.heap.size w w' :=
  pays_slice_arr (F := namesD DsLaw.z (fun _ _ _ => 0) 0) tabs36 tabs36_nd mixed okF_ok rfl ht (fun ns A => sumsL_ok _ rfl ht) hf hl hss (fun b off len cap A hA hmax => by
    by_cases h8 : len ≤ 8
    · refine aln_tree_pays ht hA hf hl (fsOk_app (alnF_ok hl len) ?_) (aln_all len hA.pos h8 _)
      rw [isLen, fsOk_cons, fsOk_nil, eq0_ev, litN_ev, var_ev, (aln_env hl).2]
      exact ⟨⟨fun _ => rfl, fun _ => rfl⟩, trivial⟩
    · refine aln_tree_pays ht hA hf hl ?_ aln_treeG
      rw [fsOk_cons, fsOk_nil, lt0_ev, lit_ev, var_ev, (aln_env hl).2]
      exact ⟨⟨fun _ => rfl, fun _ => by omega⟩, trivial⟩) aln_treeE aln_treeN
end Go.Proofs.YthbfjnmdjehljaaDoor
