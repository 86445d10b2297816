/- The law ForeignRuns of layer 35: its template. -/
import Derived.Test.YtbjficjcgpgcbaaDoorRcH
namespace Go.Proofs.YtbjficjcgpgcbaaDoor
open Go Go.RowKit SX Frm Frn
set_option linter.unusedVariables false
set_option linter.unusedSimpArgs false

def runSh : List Ph := [.sh (.agg [.int .i64, .int .i64]), .sl opLk]
def wI : E := .bin .zadd .i64 (.var 2) (.bin .zmul .i64 (.lit (-1)) (.var 5))
def wX : E := .var 4
def runBx : List Box := [⟨false, .ro (cells35.map ofLeaf)⟩, ⟨false, .arr 0 opLk (.var 2)⟩, ⟨true, .cells [.int .i64 (.var 0), .int .i64 (.var 1)] 23 0⟩, ⟨true, .obj 1 [wX]⟩, ⟨true, .obj 2 [wX]⟩]
def runT : TmN := ⟨⟨142, [(7, .int .i64 wI), (1, .inp 1 13 0 (.var 2) (.var 2) (.var 3)), (5, .ptr 3 0), (6, .ptr 4 0)],
  runBx, [(lt0 wI (.lit 0), false), (lt0 (.var 5) (.lit 0), false)]⟩, .var 5, .lit 0, .lit 0, []⟩
def runC : CutN := ⟨[1, 1, 1, 1, 0, 1, 0], [runT]⟩
def runCs : List CutN := [runC]
def runAx : Fs := lenU 2 ++ phFacts runSh 0
noncomputable def runCode : Code := (Tryd.f3.body).getD .skip
set_option maxRecDepth 1000000 in
theorem run_enter : ((execP Tryd.prog (tabGl tabs35 0) callW (noKeep 3) 80 runCode (entrySt Tryd.f3 (phArgs tabs35.length (phSize runSh) none runSh 0) (arrHp tabs35 (phKs runSh) (phSize runSh)) (([] ++ runAx) ++ (lenU (phSize runSh) ++ phFacts runSh 0)))).all (leafOkN (tabGl tabs35 0) runCs (lawEnd Tryd.prog Tryd.f3) (phSize runSh + 2) [] (fun _ _ _ => true))) = true := by kernel_rfl
set_option maxRecDepth 1000000 in
theorem run_round (g : Nat → Value) : roundOkN Tryd.prog (tabGl tabs35 0) callW (noKeep 3) 80 runCs (lawEnd Tryd.prog Tryd.f3) (phSize runSh + 2) runCode ([] ++ runAx) runC runT g = true := by kernel_rfl
set_option maxRecDepth 1000000 in
theorem run_body : Tryd.f3.body = some runCode := by kernel_rfl
theorem len_ax {ns : List Int} {m cap : Nat} {A : Nat → Nat → Int → Int} {w : World} {hs : List Ph} {b off : Nat} {l : Nat} (ht : TabsIn tabs35 w) (hA : ArrIn w (phKs hs) b off m cap A) (hns : phFits hs ns) (hl : ns.length = phSize hs) (hll : phSize hs = l) : SX.FsOk (envA FN (ns ++ [(m : Int), (cap : Int)]) A) (lenU l ++ phFacts hs 0) := by
  subst hll
  obtain ⟨_, _, s3, _, _⟩ := arr_start (m := phSize hs) tabs35 tabs35_nd ht hA FN (ns ++ [(m : Int), (cap : Int)]) (by rw [← hl]; simp) (by rw [← hl]; simp)
  obtain ⟨a1, a2⟩ := ph_append (hs := hs) (ms := [(m : Int), (cap : Int)]) (ss := ([] : List Value)) hl
  exact fsOk_app s3 (phFacts_ok (a2.2 hns))
section
variable {A : Nat → Nat → Int → Int} {b off cap m : Nat} {ns : List Int} {w : World}
theorem run_case (ht : TabsIn tabs35 w) (hA : ArrIn w (phKs runSh) b off m cap A) (hns : phFits runSh ns) (hl : ns.length = phSize runSh) :
    Calls Tryd.prog 3 (phVals runSh ns [.slice (some ⟨b, off, none⟩) m cap]).toArray w fun e w' => e = .returned (.bool true) ∧ Below w.heap.size w w' :=
  pays_arr_cutN (rs0 := []) (cuts := runCs) (p := []) (ax := runAx) (call := callW) (keep := noKeep 3) (fuel := 80) (C := runCode) (fn := Tryd.f3) tabs35 tabs35_nd ht mixed FN Tryd.func3 run_body rfl hA hns hl
    (fun _ h => by cases h) (len_ax ht hA hns hl rfl) rfl
    (fun ρ' hρ => callW_ok hρ.1 ht)
    (fun ρ' hρ c hc t htm r hr => by
      obtain rfl : c = runC := List.mem_singleton.1 hc
      obtain rfl : t = runT := List.mem_singleton.1 htm
      cases hr)
    (fun c hc t htm => by
      obtain rfl : c = runC := List.mem_singleton.1 hc
      obtain rfl : t = runT := List.mem_singleton.1 htm
      exact ⟨.leaf, fun g => CT.mk0 (run_round g)⟩)
    (fun r hr => by cases hr) run_enter
end
set_option maxRecDepth 1000000 in
theorem run_treeE : (callF Tryd.prog (tabGl tabs35 0) okF sums35 noKeep 80 30 3 (phArgs tabs35.length (phSize runSh) (some (inpNo tabs35.length (phKs runSh).length (phSize runSh))) runSh 0) (noHp tabs35) (phFacts runSh 0)).all isTrueF = true := by kernel_rfl
set_option maxRecDepth 1000000 in
theorem run_treeN : (callF Tryd.prog (tabGl tabs35 0) okF sums35 noKeep 80 30 3 (phArgs tabs35.length (phSize runSh) (some rawNil) runSh 0) (noHp tabs35) (phFacts runSh 0)).all isTrueF = true := by kernel_rfl
theorem run_pays (ns : List Int) (ss : List Value) (hf : phFits runSh ns) (hl : ns.length = phSize runSh) (w : World) (hss : slFits w runSh ss) (ht : TabsIn tabs35 w) : Calls Tryd.prog 3 (phVals runSh ns ss).toArray w fun e w' => e = .returned (.bool true) ∧ Below w.heap.size w w' :=
  pays_slice_arr (F := FN) tabs35 tabs35_nd mixed okF_ok rfl ht (fun ns A => sums35_ok _ ht) hf hl hss (fun b off len cap A hA hmax => run_case ht hA hf hl) run_treeE run_treeN
end Go.Proofs.YtbjficjcgpgcbaaDoor
