/- What the laws of layer 38 share: the examples. -/
import Derived.Test.YtkjbekloacihaaaOk38
namespace Go.Proofs.Ytkjbekloacihaaa
open Go Go.RowKit SX
set_option linter.unusedVariables false

def noKeep : FuncId → Nat → List Nat := fun _ _ => []
theorem own : ownKnob Try.prog.godebug = none := by kernel_rfl
theorem laidOut : laidOutB Try.prog = true := by kernel_rfl
set_option maxRecDepth 1000000 in
theorem awake_tree : ((callF Try.prog (tabGl [] 0) okF (fun _ _ => none) noKeep 80 30 12 [] (tabHp []) []).all isTrueF) = true := by kernel_rfl
set_option maxRecDepth 1000000 in
theorem awake_sx (w : World) : Calls Try.prog 12 #[] w fun e w' => e = .returned (.bool true) ∧ Below w.heap.size w w' :=
  pays_facts (ρ := envOf (fun _ _ _ => 0) []) (args := []) (fs0 := []) [] (by decide) (tabs_nil w) mixed okF_ok (fun _ h => by cases h) (sums_none _ _ _ _) trivial rfl (T.all_holds awake_tree)
def i1 : Sh := .one (.int .i64)
def names38 : Nat → Nat → List Int → Int := fun _ _ _ => 0
def sums38 : Sums := sumsA 12 []
set_option maxRecDepth 1000000 in
theorem sums38_ok (v : List Int) (w : World) : SumsOk Try.prog (envOf names38 v) w (fun _ => False) sums38 :=
  sumsA_ok (fun w' hk => awake_sx w') fun s hs => by cases hs
end Go.Proofs.Ytkjbekloacihaaa
