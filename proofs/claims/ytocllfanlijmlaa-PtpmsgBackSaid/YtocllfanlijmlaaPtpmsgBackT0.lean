/- The law PtpmsgBack of layer 33: trees. -/
import Derived.Test.YtocllfanlijmlaaPtpmsgBackH
namespace Go.Proofs.Ytocllfanlijmlaa
open Go Go.RowKit SX
set_option linter.unusedVariables false
set_option maxRecDepth 1000000 in
theorem bck_tree0 : ((callF Try.prog (tabGl [] 0) okF sums0 noKeep 80 30 8 (varShs bckSh 0) (tabHp []) ([(E.bin .lt .i64 (.var 1) (.lit 0), true)] ++ varFacts bckSh 0)).all isTrueF) = true := by kernel_rfl
set_option maxRecDepth 1000000 in
theorem bck_tree1 : ((callF Try.prog (tabGl [] 0) okF sums0 noKeep 80 30 8 (varShs bckSh 0) (tabHp []) ([(E.bin .lt .i64 (.var 1) (.lit 0), false), (E.bin .lt .i64 (.lit 255) (.var 1), true)] ++ varFacts bckSh 0)).all isTrueF) = true := by kernel_rfl
set_option maxRecDepth 1000000 in
theorem bck_tree2 : ((callF Try.prog (tabGl [] 0) okF sums0 noKeep 80 30 8 (varShs bckSh 0) (tabHp []) ([(E.bin .lt .i64 (.var 1) (.lit 0), false), (E.bin .lt .i64 (.lit 255) (.var 1), false), (E.bin .lt .i64 (.var 2) (.lit 0), true)] ++ varFacts bckSh 0)).all isTrueF) = true := by kernel_rfl
set_option maxRecDepth 1000000 in
theorem bck_tree3 : ((callF Try.prog (tabGl [] 0) okF sums0 noKeep 80 30 8 (varShs bckSh 0) (tabHp []) ([(E.bin .lt .i64 (.var 1) (.lit 0), false), (E.bin .lt .i64 (.lit 255) (.var 1), false), (E.bin .lt .i64 (.var 2) (.lit 0), false), (E.bin .lt .i64 (.lit 65535) (.var 2), true)] ++ varFacts bckSh 0)).all isTrueF) = true := by kernel_rfl
set_option maxRecDepth 1000000 in
theorem bck_tree4 : ((callF Try.prog (tabGl [] 0) okF sums0 noKeep 80 30 8 (varShs bckSh 0) (tabHp []) ([(E.bin .lt .i64 (.var 1) (.lit 0), false), (E.bin .lt .i64 (.lit 255) (.var 1), false), (E.bin .lt .i64 (.var 2) (.lit 0), false), (E.bin .lt .i64 (.lit 65535) (.var 2), false), (E.bin .lt .i64 (.var 5) (.lit 0), true)] ++ varFacts bckSh 0)).all isTrueF) = true := by kernel_rfl
set_option maxRecDepth 1000000 in
theorem bck_tree5 : ((callF Try.prog (tabGl [] 0) okF sums0 noKeep 80 30 8 (varShs bckSh 0) (tabHp []) ([(E.bin .lt .i64 (.var 1) (.lit 0), false), (E.bin .lt .i64 (.lit 255) (.var 1), false), (E.bin .lt .i64 (.var 2) (.lit 0), false), (E.bin .lt .i64 (.lit 65535) (.var 2), false), (E.bin .lt .i64 (.var 5) (.lit 0), false), (E.bin .lt .i64 (.lit 65535) (.var 5), true)] ++ varFacts bckSh 0)).all isTrueF) = true := by kernel_rfl
set_option maxRecDepth 1000000 in
theorem bck_tree6 : ((callF Try.prog (tabGl [] 0) okF sums0 noKeep 80 30 8 (varShs bckSh 0) (tabHp []) ([(E.bin .lt .i64 (.var 1) (.lit 0), false), (E.bin .lt .i64 (.lit 255) (.var 1), false), (E.bin .lt .i64 (.var 2) (.lit 0), false), (E.bin .lt .i64 (.lit 65535) (.var 2), false), (E.bin .lt .i64 (.var 5) (.lit 0), false), (E.bin .lt .i64 (.lit 65535) (.var 5), false), (E.bin .lt .i64 (.var 6) (.lit 0), true)] ++ varFacts bckSh 0)).all isTrueF) = true := by kernel_rfl
set_option maxRecDepth 1000000 in
theorem bck_tree7 : ((callF Try.prog (tabGl [] 0) okF sums0 noKeep 80 30 8 (varShs bckSh 0) (tabHp []) ([(E.bin .lt .i64 (.var 1) (.lit 0), false), (E.bin .lt .i64 (.lit 255) (.var 1), false), (E.bin .lt .i64 (.var 2) (.lit 0), false), (E.bin .lt .i64 (.lit 65535) (.var 2), false), (E.bin .lt .i64 (.var 5) (.lit 0), false), (E.bin .lt .i64 (.lit 65535) (.var 5), false), (E.bin .lt .i64 (.var 6) (.lit 0), false), (E.bin .lt .i64 (.lit 65535) (.var 6), true)] ++ varFacts bckSh 0)).all isTrueF) = true := by kernel_rfl
end Go.Proofs.Ytocllfanlijmlaa
