/- The law TopPorts: all its ways end with true. -/
import Derived.Test.YtedeecnibmgobaaDoorTopPortsR0
import Derived.Test.YtedeecnibmgobaaDoorTopPortsR1
import Derived.Test.YtedeecnibmgobaaDoorTopPortsR2
import Derived.Test.YtedeecnibmgobaaDoorTopPortsR3
import Derived.Test.YtedeecnibmgobaaDoorTopPortsR4
import Derived.Test.YtedeecnibmgobaaDoorTopPortsR5
import Derived.Test.YtedeecnibmgobaaDoorTopPortsR6
import Derived.Test.YtedeecnibmgobaaDoorTopPortsR7
import Derived.Test.YtedeecnibmgobaaDoorTopPortsR8
import Derived.Test.YtedeecnibmgobaaDoorTopPortsR9
import Derived.Test.YtedeecnibmgobaaDoorTopPortsR10
import Derived.Test.YtedeecnibmgobaaDoorTopPortsR11
import Derived.Test.YtedeecnibmgobaaDoorTopPortsR12
import Derived.Test.YtedeecnibmgobaaDoorTopPortsR13
import Derived.Test.YtedeecnibmgobaaDoorTopPortsR14
namespace Go.Proofs.YtedeecnibmgobaaDoor
open Go Go.RowKit SX
set_option linter.unusedVariables false
set_option maxRecDepth 1000000 in
theorem top_treeLo : (lawT [(lt0 (.var 11) (.lit 4), true)]).all isTrueF = true := by kernel_rfl
set_option maxRecDepth 1000000 in
theorem top_treeHi : (lawT [(lt0 (.lit 9) (.var 11), true)]).all isTrueF = true := by kernel_rfl
set_option maxRecDepth 1000000 in
theorem top_treeG : (lawT [(lt0 (.lit 8) (.var 12), true)]).all isTrueF = true := by kernel_rfl
set_option maxRecDepth 1000000 in
theorem top_treeE : lawE.all isTrueF = true := by kernel_rfl
set_option maxRecDepth 1000000 in
theorem top_treeN : lawN.all isTrueF = true := by kernel_rfl
theorem top_all1 : (∀ s, s ≤ 1 → topEnter 1 s = true) ∧ ∀ s, s ≤ 1 → ∀ g, topRounds 1 s g = true := by
  refine ⟨fun s hs => ?_, fun s hs g => ?_⟩
  · match s, hs with
    | 0, _ => exact top_enter1_0
    | 1, _ => exact top_enter1_1
    | n + 2, h => exact absurd h (by omega)
  · match s, hs with
    | 0, _ => exact top_rounds1_0 g
    | 1, _ => exact top_rounds1_1 g
    | n + 2, h => exact absurd h (by omega)
theorem top_all2 : (∀ s, s ≤ 2 → topEnter 2 s = true) ∧ ∀ s, s ≤ 2 → ∀ g, topRounds 2 s g = true := by
  refine ⟨fun s hs => ?_, fun s hs g => ?_⟩
  · match s, hs with
    | 0, _ => exact top_enter2_0
    | 1, _ => exact top_enter2_1
    | 2, _ => exact top_enter2_2
    | n + 3, h => exact absurd h (by omega)
  · match s, hs with
    | 0, _ => exact top_rounds2_0 g
    | 1, _ => exact top_rounds2_1 g
    | 2, _ => exact top_rounds2_2 g
    | n + 3, h => exact absurd h (by omega)
theorem top_all3 : (∀ s, s ≤ 3 → topEnter 3 s = true) ∧ ∀ s, s ≤ 3 → ∀ g, topRounds 3 s g = true := by
  refine ⟨fun s hs => ?_, fun s hs g => ?_⟩
  · match s, hs with
    | 0, _ => exact top_enter3_0
    | 1, _ => exact top_enter3_1
    | 2, _ => exact top_enter3_2
    | 3, _ => exact top_enter3_3
    | n + 4, h => exact absurd h (by omega)
  · match s, hs with
    | 0, _ => exact top_rounds3_0 g
    | 1, _ => exact top_rounds3_1 g
    | 2, _ => exact top_rounds3_2 g
    | 3, _ => exact top_rounds3_3 g
    | n + 4, h => exact absurd h (by omega)
theorem top_all4 : (∀ s, s ≤ 4 → topEnter 4 s = true) ∧ ∀ s, s ≤ 4 → ∀ g, topRounds 4 s g = true := by
  refine ⟨fun s hs => ?_, fun s hs g => ?_⟩
  · match s, hs with
    | 0, _ => exact top_enter4_0
    | 1, _ => exact top_enter4_1
    | 2, _ => exact top_enter4_2
    | 3, _ => exact top_enter4_3
    | 4, _ => exact top_enter4_4
    | n + 5, h => exact absurd h (by omega)
  · match s, hs with
    | 0, _ => exact top_rounds4_0 g
    | 1, _ => exact top_rounds4_1 g
    | 2, _ => exact top_rounds4_2 g
    | 3, _ => exact top_rounds4_3 g
    | 4, _ => exact top_rounds4_4 g
    | n + 5, h => exact absurd h (by omega)
theorem top_all5 : (∀ s, s ≤ 5 → topEnter 5 s = true) ∧ ∀ s, s ≤ 5 → ∀ g, topRounds 5 s g = true := by
  refine ⟨fun s hs => ?_, fun s hs g => ?_⟩
  · match s, hs with
    | 0, _ => exact top_enter5_0
    | 1, _ => exact top_enter5_1
    | 2, _ => exact top_enter5_2
    | 3, _ => exact top_enter5_3
    | 4, _ => exact top_enter5_4
    | 5, _ => exact top_enter5_5
    | n + 6, h => exact absurd h (by omega)
  · match s, hs with
    | 0, _ => exact top_rounds5_0 g
    | 1, _ => exact top_rounds5_1 g
    | 2, _ => exact top_rounds5_2 g
    | 3, _ => exact top_rounds5_3 g
    | 4, _ => exact top_rounds5_4 g
    | 5, _ => exact top_rounds5_5 g
    | n + 6, h => exact absurd h (by omega)
theorem top_all6 : (∀ s, s ≤ 6 → topEnter 6 s = true) ∧ ∀ s, s ≤ 6 → ∀ g, topRounds 6 s g = true := by
  refine ⟨fun s hs => ?_, fun s hs g => ?_⟩
  · match s, hs with
    | 0, _ => exact top_enter6_0
    | 1, _ => exact top_enter6_1
    | 2, _ => exact top_enter6_2
    | 3, _ => exact top_enter6_3
    | 4, _ => exact top_enter6_4
    | 5, _ => exact top_enter6_5
    | 6, _ => exact top_enter6_6
    | n + 7, h => exact absurd h (by omega)
  · match s, hs with
    | 0, _ => exact top_rounds6_0 g
    | 1, _ => exact top_rounds6_1 g
    | 2, _ => exact top_rounds6_2 g
    | 3, _ => exact top_rounds6_3 g
    | 4, _ => exact top_rounds6_4 g
    | 5, _ => exact top_rounds6_5 g
    | 6, _ => exact top_rounds6_6 g
    | n + 7, h => exact absurd h (by omega)
theorem top_all7 : (∀ s, s ≤ 7 → topEnter 7 s = true) ∧ ∀ s, s ≤ 7 → ∀ g, topRounds 7 s g = true := by
  refine ⟨fun s hs => ?_, fun s hs g => ?_⟩
  · match s, hs with
    | 0, _ => exact top_enter7_0
    | 1, _ => exact top_enter7_1
    | 2, _ => exact top_enter7_2
    | 3, _ => exact top_enter7_3
    | 4, _ => exact top_enter7_4
    | 5, _ => exact top_enter7_5
    | 6, _ => exact top_enter7_6
    | 7, _ => exact top_enter7_7
    | n + 8, h => exact absurd h (by omega)
  · match s, hs with
    | 0, _ => exact top_rounds7_0 g
    | 1, _ => exact top_rounds7_1 g
    | 2, _ => exact top_rounds7_2 g
    | 3, _ => exact top_rounds7_3 g
    | 4, _ => exact top_rounds7_4 g
    | 5, _ => exact top_rounds7_5 g
    | 6, _ => exact top_rounds7_6 g
    | 7, _ => exact top_rounds7_7 g
    | n + 8, h => exact absurd h (by omega)
theorem top_all8 : (∀ s, s ≤ 8 → topEnter 8 s = true) ∧ ∀ s, s ≤ 8 → ∀ g, topRounds 8 s g = true := by
  refine ⟨fun s hs => ?_, fun s hs g => ?_⟩
  · match s, hs with
    | 0, _ => exact top_enter8_0
    | 1, _ => exact top_enter8_1
    | 2, _ => exact top_enter8_2
    | 3, _ => exact top_enter8_3
    | 4, _ => exact top_enter8_4
    | 5, _ => exact top_enter8_5
    | 6, _ => exact top_enter8_6
    | 7, _ => exact top_enter8_7
    | 8, _ => exact top_enter8_8
    | n + 9, h => exact absurd h (by omega)
  · match s, hs with
    | 0, _ => exact top_rounds8_0 g
    | 1, _ => exact top_rounds8_1 g
    | 2, _ => exact top_rounds8_2 g
    | 3, _ => exact top_rounds8_3 g
    | 4, _ => exact top_rounds8_4 g
    | 5, _ => exact top_rounds8_5 g
    | 6, _ => exact top_rounds8_6 g
    | 7, _ => exact top_rounds8_7 g
    | 8, _ => exact top_rounds8_8 g
    | n + 9, h => exact absurd h (by omega)
theorem top_all : ∀ m, 1 ≤ m → m ≤ 8 → (∀ s, s ≤ m → topEnter m s = true) ∧ ∀ s, s ≤ m → ∀ g, topRounds m s g = true :=
  one_to_8 top_all1 top_all2 top_all3 top_all4 top_all5 top_all6 top_all7 top_all8
theorem top_pays (ns : List Int) (ss : List Value) (hf : phFits topSh ns) (hl : ns.length = phSize topSh) (w : World) (hss : slFits w topSh ss) (ht : TabsIn tabs2 w) : Calls Tryd.prog 3 (phVals topSh ns ss).toArray w fun e w' => e = .returned (.bool true) ∧ Below w.heap.size w w' :=
  pays_slice_arr (F := namesD DsLaw.z (fun _ _ _ => 0) 0) tabs2 tabs2_nd mixed okF_ok rfl ht (fun ns A => sumsL_ok _ rfl (tabs_one ht)) hf hl hss (fun b off len cap A hA hmax => by
    obtain ⟨q1, q2, q3, q4, q5⟩ := top_env (m := len) (cap := cap) hl (SameK.refl (envA (namesD (dsOf ns) A len) (ns ++ [(len : Int), (cap : Int)]) A))
    by_cases h8 : len ≤ 8
    · by_cases hlo : ns.getD 11 0 < 4
      · refine top_tree_pays ht hA hf hl ?_ top_treeLo
        rw [fsOk_cons, fsOk_nil, lt0_ev, lit_ev, var_ev, q5]
        exact ⟨⟨fun _ => rfl, fun _ => hlo⟩, trivial⟩
      · by_cases hhi : 9 < ns.getD 11 0
        · refine top_tree_pays ht hA hf hl ?_ top_treeHi
          rw [fsOk_cons, fsOk_nil, lt0_ev, lit_ev, var_ev, q5]
          exact ⟨⟨fun _ => rfl, fun _ => hhi⟩, trivial⟩
        · exact top_case ht hA hf hl (by omega) (top_all len hA.pos h8).1 (top_all len hA.pos h8).2
    · refine top_tree_pays ht hA hf hl ?_ top_treeG
      rw [fsOk_cons, fsOk_nil, lt0_ev, lit_ev, var_ev, q3]
      exact ⟨⟨fun _ => rfl, fun _ => by omega⟩, trivial⟩) top_treeE top_treeN
end Go.Proofs.YtedeecnibmgobaaDoor
