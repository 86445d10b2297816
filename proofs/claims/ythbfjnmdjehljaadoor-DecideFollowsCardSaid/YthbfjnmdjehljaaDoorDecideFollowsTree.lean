/- The law DecideFollows of layer 36: all its ways end with true. -/
import Derived.Test.YthbfjnmdjehljaaDoorDecideFollowsR0
import Derived.Test.YthbfjnmdjehljaaDoorDecideFollowsR1
import Derived.Test.YthbfjnmdjehljaaDoorDecideFollowsR2
import Derived.Test.YthbfjnmdjehljaaDoorDecideFollowsR3
import Derived.Test.YthbfjnmdjehljaaDoorDecideFollowsR4
import Derived.Test.YthbfjnmdjehljaaDoorDecideFollowsR5
import Derived.Test.YthbfjnmdjehljaaDoorDecideFollowsR6
import Derived.Test.YthbfjnmdjehljaaDoorDecideFollowsR7
import Derived.Test.YthbfjnmdjehljaaDoorDecideFollowsR8
import Derived.Test.YthbfjnmdjehljaaDoorDecideFollowsR9
import Derived.Test.YthbfjnmdjehljaaDoorDecideFollowsR10
import Derived.Test.YthbfjnmdjehljaaDoorDecideFollowsR11
import Derived.Test.YthbfjnmdjehljaaDoorDecideFollowsR12
namespace Go.Proofs.YthbfjnmdjehljaaDoor
open Go Go.RowKit SX
set_option linter.unusedVariables false
theorem fol_rounds1 (g : Nat → Value) : folAll 1 (fun k s => folRounds 1 k s g) = true := by
  refine Bool.and_eq_true_iff.2 ⟨fol_rounds1_0_1 g, Bool.and_eq_true_iff.2 ⟨fol_rounds1_3_1 g, Bool.and_eq_true_iff.2 ⟨List.all_eq_true.2 fun s hs => ?_, List.all_eq_true.2 fun s hs => ?_⟩⟩⟩
  · have : s < 1 := List.mem_range.1 hs
    match s, this with
    | 0, _ => exact fol_rounds1_1_0 g
  · have : s < 1 := List.mem_range.1 hs
    match s, this with
    | 0, _ => exact fol_rounds1_2_0 g
theorem fol_rounds2 (g : Nat → Value) : folAll 2 (fun k s => folRounds 2 k s g) = true := by
  refine Bool.and_eq_true_iff.2 ⟨fol_rounds2_0_2 g, Bool.and_eq_true_iff.2 ⟨fol_rounds2_3_2 g, Bool.and_eq_true_iff.2 ⟨List.all_eq_true.2 fun s hs => ?_, List.all_eq_true.2 fun s hs => ?_⟩⟩⟩
  · have : s < 2 := List.mem_range.1 hs
    match s, this with
    | 0, _ => exact fol_rounds2_1_0 g
    | 1, _ => exact fol_rounds2_1_1 g
  · have : s < 2 := List.mem_range.1 hs
    match s, this with
    | 0, _ => exact fol_rounds2_2_0 g
    | 1, _ => exact fol_rounds2_2_1 g
theorem fol_rounds3 (g : Nat → Value) : folAll 3 (fun k s => folRounds 3 k s g) = true := by
  refine Bool.and_eq_true_iff.2 ⟨fol_rounds3_0_3 g, Bool.and_eq_true_iff.2 ⟨fol_rounds3_3_3 g, Bool.and_eq_true_iff.2 ⟨List.all_eq_true.2 fun s hs => ?_, List.all_eq_true.2 fun s hs => ?_⟩⟩⟩
  · have : s < 3 := List.mem_range.1 hs
    match s, this with
    | 0, _ => exact fol_rounds3_1_0 g
    | 1, _ => exact fol_rounds3_1_1 g
    | 2, _ => exact fol_rounds3_1_2 g
  · have : s < 3 := List.mem_range.1 hs
    match s, this with
    | 0, _ => exact fol_rounds3_2_0 g
    | 1, _ => exact fol_rounds3_2_1 g
    | 2, _ => exact fol_rounds3_2_2 g
theorem fol_rounds4 (g : Nat → Value) : folAll 4 (fun k s => folRounds 4 k s g) = true := by
  refine Bool.and_eq_true_iff.2 ⟨fol_rounds4_0_4 g, Bool.and_eq_true_iff.2 ⟨fol_rounds4_3_4 g, Bool.and_eq_true_iff.2 ⟨List.all_eq_true.2 fun s hs => ?_, List.all_eq_true.2 fun s hs => ?_⟩⟩⟩
  · have : s < 4 := List.mem_range.1 hs
    match s, this with
    | 0, _ => exact fol_rounds4_1_0 g
    | 1, _ => exact fol_rounds4_1_1 g
    | 2, _ => exact fol_rounds4_1_2 g
    | 3, _ => exact fol_rounds4_1_3 g
  · have : s < 4 := List.mem_range.1 hs
    match s, this with
    | 0, _ => exact fol_rounds4_2_0 g
    | 1, _ => exact fol_rounds4_2_1 g
    | 2, _ => exact fol_rounds4_2_2 g
    | 3, _ => exact fol_rounds4_2_3 g
theorem fol_rounds5 (g : Nat → Value) : folAll 5 (fun k s => folRounds 5 k s g) = true := by
  refine Bool.and_eq_true_iff.2 ⟨fol_rounds5_0_5 g, Bool.and_eq_true_iff.2 ⟨fol_rounds5_3_5 g, Bool.and_eq_true_iff.2 ⟨List.all_eq_true.2 fun s hs => ?_, List.all_eq_true.2 fun s hs => ?_⟩⟩⟩
  · have : s < 5 := List.mem_range.1 hs
    match s, this with
    | 0, _ => exact fol_rounds5_1_0 g
    | 1, _ => exact fol_rounds5_1_1 g
    | 2, _ => exact fol_rounds5_1_2 g
    | 3, _ => exact fol_rounds5_1_3 g
    | 4, _ => exact fol_rounds5_1_4 g
  · have : s < 5 := List.mem_range.1 hs
    match s, this with
    | 0, _ => exact fol_rounds5_2_0 g
    | 1, _ => exact fol_rounds5_2_1 g
    | 2, _ => exact fol_rounds5_2_2 g
    | 3, _ => exact fol_rounds5_2_3 g
    | 4, _ => exact fol_rounds5_2_4 g
theorem fol_rounds6 (g : Nat → Value) : folAll 6 (fun k s => folRounds 6 k s g) = true := by
  refine Bool.and_eq_true_iff.2 ⟨fol_rounds6_0_6 g, Bool.and_eq_true_iff.2 ⟨fol_rounds6_3_6 g, Bool.and_eq_true_iff.2 ⟨List.all_eq_true.2 fun s hs => ?_, List.all_eq_true.2 fun s hs => ?_⟩⟩⟩
  · have : s < 6 := List.mem_range.1 hs
    match s, this with
    | 0, _ => exact fol_rounds6_1_0 g
    | 1, _ => exact fol_rounds6_1_1 g
    | 2, _ => exact fol_rounds6_1_2 g
    | 3, _ => exact fol_rounds6_1_3 g
    | 4, _ => exact fol_rounds6_1_4 g
    | 5, _ => exact fol_rounds6_1_5 g
  · have : s < 6 := List.mem_range.1 hs
    match s, this with
    | 0, _ => exact fol_rounds6_2_0 g
    | 1, _ => exact fol_rounds6_2_1 g
    | 2, _ => exact fol_rounds6_2_2 g
    | 3, _ => exact fol_rounds6_2_3 g
    | 4, _ => exact fol_rounds6_2_4 g
    | 5, _ => exact fol_rounds6_2_5 g
theorem fol_rounds7 (g : Nat → Value) : folAll 7 (fun k s => folRounds 7 k s g) = true := by
  refine Bool.and_eq_true_iff.2 ⟨fol_rounds7_0_7 g, Bool.and_eq_true_iff.2 ⟨fol_rounds7_3_7 g, Bool.and_eq_true_iff.2 ⟨List.all_eq_true.2 fun s hs => ?_, List.all_eq_true.2 fun s hs => ?_⟩⟩⟩
  · have : s < 7 := List.mem_range.1 hs
    match s, this with
    | 0, _ => exact fol_rounds7_1_0 g
    | 1, _ => exact fol_rounds7_1_1 g
    | 2, _ => exact fol_rounds7_1_2 g
    | 3, _ => exact fol_rounds7_1_3 g
    | 4, _ => exact fol_rounds7_1_4 g
    | 5, _ => exact fol_rounds7_1_5 g
    | 6, _ => exact fol_rounds7_1_6 g
  · have : s < 7 := List.mem_range.1 hs
    match s, this with
    | 0, _ => exact fol_rounds7_2_0 g
    | 1, _ => exact fol_rounds7_2_1 g
    | 2, _ => exact fol_rounds7_2_2 g
    | 3, _ => exact fol_rounds7_2_3 g
    | 4, _ => exact fol_rounds7_2_4 g
    | 5, _ => exact fol_rounds7_2_5 g
    | 6, _ => exact fol_rounds7_2_6 g
theorem fol_rounds8 (g : Nat → Value) : folAll 8 (fun k s => folRounds 8 k s g) = true := by
  refine Bool.and_eq_true_iff.2 ⟨fol_rounds8_0_8 g, Bool.and_eq_true_iff.2 ⟨fol_rounds8_3_8 g, Bool.and_eq_true_iff.2 ⟨List.all_eq_true.2 fun s hs => ?_, List.all_eq_true.2 fun s hs => ?_⟩⟩⟩
  · have : s < 8 := List.mem_range.1 hs
    match s, this with
    | 0, _ => exact fol_rounds8_1_0 g
    | 1, _ => exact fol_rounds8_1_1 g
    | 2, _ => exact fol_rounds8_1_2 g
    | 3, _ => exact fol_rounds8_1_3 g
    | 4, _ => exact fol_rounds8_1_4 g
    | 5, _ => exact fol_rounds8_1_5 g
    | 6, _ => exact fol_rounds8_1_6 g
    | 7, _ => exact fol_rounds8_1_7 g
  · have : s < 8 := List.mem_range.1 hs
    match s, this with
    | 0, _ => exact fol_rounds8_2_0 g
    | 1, _ => exact fol_rounds8_2_1 g
    | 2, _ => exact fol_rounds8_2_2 g
    | 3, _ => exact fol_rounds8_2_3 g
    | 4, _ => exact fol_rounds8_2_4 g
    | 5, _ => exact fol_rounds8_2_5 g
    | 6, _ => exact fol_rounds8_2_6 g
    | 7, _ => exact fol_rounds8_2_7 g
set_option maxRecDepth 1000000 in
theorem fol_treeG : (lawT 7 decSh [(lt0 (.lit 8) (.var (phSize decSh)), true)]).all isTrueF = true := by kernel_rfl
set_option maxRecDepth 1000000 in
theorem fol_treeE : (lawE 7 decSh).all isTrueF = true := by kernel_rfl
set_option maxRecDepth 1000000 in
theorem fol_treeN : (lawN 7 decSh).all isTrueF = true := by kernel_rfl
theorem fol_all : ∀ m, 1 ≤ m → m ≤ 8 → folAll m (folEnter m) = true ∧ ∀ g, folAll m (fun k s => folRounds m k s g) = true :=
  one_to_8 ⟨fol_enter1, fol_rounds1⟩ ⟨fol_enter2, fol_rounds2⟩ ⟨fol_enter3, fol_rounds3⟩ ⟨fol_enter4, fol_rounds4⟩ ⟨fol_enter5, fol_rounds5⟩ ⟨fol_enter6, fol_rounds6⟩ ⟨fol_enter7, fol_rounds7⟩ ⟨fol_enter8, fol_rounds8⟩
theorem fol_pays (ns : List Int) (ss : List Value) (hf : phFits decSh ns) (hl : ns.length = phSize decSh) (w : World) (hss : slFits w decSh ss) (ht : TabsIn tabs36 w) : Calls Tryd.prog 7 (phVals decSh ns ss).toArray w fun e w' => e = .returned (.bool true) ∧ Below w.heap.size w w' :=
  law_by_len rfl rfl (by decide) ht hf hl hss (fun m h1 h8 b off cap A hA => fol_case ht hA hf hl (fol_all m h1 h8).1 (fol_all m h1 h8).2) fol_treeG fol_treeE fol_treeN
end Go.Proofs.YthbfjnmdjehljaaDoor
