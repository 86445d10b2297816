/- The law DecideSlave of layer 36: all its ways end with true. -/
import Derived.Test.YthbfjnmdjehljaaDoorDecideSlaveR0
import Derived.Test.YthbfjnmdjehljaaDoorDecideSlaveR1
import Derived.Test.YthbfjnmdjehljaaDoorDecideSlaveR2
import Derived.Test.YthbfjnmdjehljaaDoorDecideSlaveR3
import Derived.Test.YthbfjnmdjehljaaDoorDecideSlaveR4
import Derived.Test.YthbfjnmdjehljaaDoorDecideSlaveR5
namespace Go.Proofs.YthbfjnmdjehljaaDoor
open Go Go.RowKit SX
set_option linter.unusedVariables false
set_option maxRecDepth 1000000 in
theorem slv_treeG : (lawT 5 decSh [(lt0 (.lit 8) (.var (phSize decSh)), true)]).all isTrueF = true := by kernel_rfl
set_option maxRecDepth 1000000 in
theorem slv_treeE : (lawE 5 decSh).all isTrueF = true := by kernel_rfl
set_option maxRecDepth 1000000 in
theorem slv_treeN : (lawN 5 decSh).all isTrueF = true := by kernel_rfl
theorem slv_rounds8 (g : Nat → Value) : upTo 8 (fun s => slvRounds 8 s g) = true := List.all_eq_true.2 fun s hs => by
  have : s < 9 := List.mem_range.1 hs
  match s, this with
  | 0, _ => exact slv_rounds8_0 g
  | 1, _ => exact slv_rounds8_1 g
  | 2, _ => exact slv_rounds8_2 g
  | 3, _ => exact slv_rounds8_3 g
  | 4, _ => exact slv_rounds8_4 g
  | 5, _ => exact slv_rounds8_5 g
  | 6, _ => exact slv_rounds8_6 g
  | 7, _ => exact slv_rounds8_7 g
  | 8, _ => exact slv_rounds8_8 g
theorem slv_all : ∀ m, 1 ≤ m → m ≤ 8 → upTo m (slvEnter m) = true ∧ ∀ g, upTo m (fun s => slvRounds m s g) = true :=
  one_to_8 ⟨slv_enter1, slv_rounds1⟩ ⟨slv_enter2, slv_rounds2⟩ ⟨slv_enter3, slv_rounds3⟩ ⟨slv_enter4, slv_rounds4⟩ ⟨slv_enter5, slv_rounds5⟩ ⟨slv_enter6, slv_rounds6⟩ ⟨slv_enter7, slv_rounds7⟩ ⟨slv_enter8, slv_rounds8⟩
theorem slv_pays (ns : List Int) (ss : List Value) (hf : phFits decSh ns) (hl : ns.length = phSize decSh) (w : World) (hss : slFits w decSh ss) (ht : TabsIn tabs36 w) : Calls Tryd.prog 5 (phVals decSh ns ss).toArray w fun e w' => e = .returned (.bool true) ∧ Below w.heap.size w w' :=
  law_by_len rfl rfl (by decide) ht hf hl hss (fun m h1 h8 b off cap A hA => slv_case ht hA hf hl (fun s hs => upTo_spec (slv_all m h1 h8).1 hs) (fun s hs g => upTo_spec ((slv_all m h1 h8).2 g) hs)) slv_treeG slv_treeE slv_treeN
end Go.Proofs.YthbfjnmdjehljaaDoor
