/- The law PtpmsgDecodes of layer 33: all its ways end with true, case by case. -/
import Derived.Test.YtocllfanlijmlaaPtpmsgDecodesT0
import Derived.Test.YtocllfanlijmlaaPtpmsgDecodesT1
import Derived.Test.YtocllfanlijmlaaPtpmsgDecodesT2
import Derived.Test.YtocllfanlijmlaaPtpmsgDecodesT3
import Derived.Test.YtocllfanlijmlaaPtpmsgDecodesT4
import Derived.Test.YtocllfanlijmlaaPtpmsgDecodesT5
import Derived.Test.YtocllfanlijmlaaPtpmsgDecodesT6
import Derived.Test.YtocllfanlijmlaaPtpmsgDecodesT7
import Derived.Test.YtocllfanlijmlaaPtpmsgDecodesT8
import Derived.Test.YtocllfanlijmlaaPtpmsgDecodesT9
import Derived.Test.YtocllfanlijmlaaPtpmsgDecodesT10
import Derived.Test.YtocllfanlijmlaaPtpmsgDecodesT11
import Derived.Test.YtocllfanlijmlaaPtpmsgDecodesT12
import Derived.Test.YtocllfanlijmlaaPtpmsgDecodesT13
import Derived.Test.YtocllfanlijmlaaPtpmsgDecodesT14
import Derived.Test.YtocllfanlijmlaaPtpmsgDecodesT15
import Derived.Test.YtocllfanlijmlaaPtpmsgDecodesT16
import Derived.Test.YtocllfanlijmlaaPtpmsgDecodesT17
import Derived.Test.YtocllfanlijmlaaPtpmsgDecodesT18
namespace Go.Proofs.Ytocllfanlijmlaa
open Go Go.RowKit SX
set_option linter.unusedVariables false

theorem dec_pays (ns : List Int) (ss : List Value) (hf : phFits decSh ns) (hl : ns.length = phSize decSh) (w : World) (hss : slFits w decSh ss) : Calls Try.prog 5 (phVals decSh ns ss).toArray w fun e w' => e = .returned (.bool true) ∧ Below w.heap.size w w' :=
  pays_slice (F := namesB) [] (by decide) mixed okF_ok rfl (tabs_nil w) (fun ns A => sumsC_ok _ rfl w) (.split (E.bin .eq .i64 (.rd 0 4 (.lit 0)) (.lit 0)) (.split (E.bin .lt .i64 (.rd 0 4 (.lit 33)) (.lit 128)) .leaf .leaf) (.split (E.bin .eq .i64 (.rd 0 4 (.lit 0)) (.lit 1)) (.split (E.bin .lt .i64 (.rd 0 4 (.lit 33)) (.lit 128)) .leaf .leaf) (.split (E.bin .eq .i64 (.rd 0 4 (.lit 0)) (.lit 2)) (.split (E.bin .lt .i64 (.rd 0 4 (.lit 33)) (.lit 128)) .leaf .leaf) (.split (E.bin .eq .i64 (.rd 0 4 (.lit 0)) (.lit 3)) (.split (E.bin .lt .i64 (.rd 0 4 (.lit 33)) (.lit 128)) .leaf .leaf) (.split (E.bin .eq .i64 (.rd 0 4 (.lit 0)) (.lit 8)) (.split (E.bin .lt .i64 (.rd 0 4 (.lit 33)) (.lit 128)) .leaf .leaf) (.split (E.bin .eq .i64 (.rd 0 4 (.lit 0)) (.lit 9)) (.split (E.bin .lt .i64 (.rd 0 4 (.lit 33)) (.lit 128)) .leaf .leaf) (.split (E.bin .eq .i64 (.rd 0 4 (.lit 0)) (.lit 10)) (.split (E.bin .lt .i64 (.rd 0 4 (.lit 33)) (.lit 128)) .leaf .leaf) (.split (E.bin .eq .i64 (.rd 0 4 (.lit 0)) (.lit 11)) (.split (E.bin .lt .i64 (.rd 0 4 (.lit 33)) (.lit 128)) (.split (E.bin .lt .i64 (.rd 0 4 (.lit 44)) (.lit 128)) .leaf .leaf) (.split (E.bin .lt .i64 (.rd 0 4 (.lit 44)) (.lit 128)) .leaf .leaf)) .leaf)))))))) (CT.mk2 (CT.mk2 (CT.mk0 dec_tree0) (CT.mk0 dec_tree1)) (CT.mk2 (CT.mk2 (CT.mk0 dec_tree2) (CT.mk0 dec_tree3)) (CT.mk2 (CT.mk2 (CT.mk0 dec_tree4) (CT.mk0 dec_tree5)) (CT.mk2 (CT.mk2 (CT.mk0 dec_tree6) (CT.mk0 dec_tree7)) (CT.mk2 (CT.mk2 (CT.mk0 dec_tree8) (CT.mk0 dec_tree9)) (CT.mk2 (CT.mk2 (CT.mk0 dec_tree10) (CT.mk0 dec_tree11)) (CT.mk2 (CT.mk2 (CT.mk0 dec_tree12) (CT.mk0 dec_tree13)) (CT.mk2 (CT.mk2 (CT.mk2 (CT.mk0 dec_tree14) (CT.mk0 dec_tree15)) (CT.mk2 (CT.mk0 dec_tree16) (CT.mk0 dec_tree17))) (CT.mk0 dec_tree18))))))))) dec_treeE dec_treeN ns ss hf hl hss
end Go.Proofs.Ytocllfanlijmlaa
