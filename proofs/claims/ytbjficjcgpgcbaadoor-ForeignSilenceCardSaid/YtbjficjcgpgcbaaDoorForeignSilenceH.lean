/- The law ForeignSilence of layer 35: its template. -/
import Derived.Test.YtbjficjcgpgcbaaDoorFw
namespace Go.Proofs.YtbjficjcgpgcbaaDoor
open Go Go.RowKit SX Frm Frn
set_option linter.unusedVariables false
set_option linter.unusedSimpArgs false

def silSh : List Ph := [.sh (.agg [.int .i64, .int .i64]), .sl opLk]
def sI : E := .bin .zadd .i64 (.var 2) (.bin .zmul .i64 (.lit (-1)) (.var 5))
def silT0 : E := .bin .zadd .i64 (.var 0) (nowE (.var 4))
def silBx : List Box := [⟨false, .ro (cells35.map ofLeaf)⟩, ⟨false, .arr 0 opLk (.var 2)⟩, ⟨true, .cells [.int .i64 (.var 0), .int .i64 (.var 1)] 23 0⟩, ⟨true, .obj 1 [.var 4]⟩]
def silRs : List Rule := hearR (.var 4) (rdD sI) (rdAt sI) :: silent (.var 4) (.var 0) silT0 :: goodR (.var 4) (rdD sI) (rdAt sI) (.var 0) (.var 1)
def silT : TmR := ⟨⟨99, [(7, .int .i64 sI), (1, .inp 1 13 0 (.var 2) (.var 2) (.var 3)), (2, .ptr 2 0), (5, .ptr 3 0), (6, .int .i64 (nowE (.var 4))), (19, .inp 1 13 0 (.var 2) (.var 2) (.var 3)), (20, .int .i64 (.var 2))],
  silBx, recF (.var 4) (.var 0) (.var 1) ++ [(lt0 sI (.lit 0), false), (lt0 (.var 5) (.lit 0), false)]⟩, .var 5, silRs⟩
def silC : CutR := ⟨[1, 1, 1, 1, 0, 1, 0], 1, [silT]⟩
def silR0 : List Rule := newRs (.var 0) (.var 1)
def silAx : Fs := lenU 2 ++ phFacts silSh 0
noncomputable def silCode : Code := (Tryd.f6.body).getD .skip
set_option maxRecDepth 1000000 in
theorem sil_enter : ((execP Tryd.prog (tabGl tabs35 0) callM (noKeep 6) 80 silCode (entrySt Tryd.f6 (phArgs tabs35.length (phSize silSh) none silSh 0) (arrHp tabs35 (phKs silSh) (phSize silSh)) (([] ++ silAx) ++ (lenU (phSize silSh) ++ phFacts silSh 0)))).all (leafOkR (tabGl tabs35 0) [silC] (lawEnd Tryd.prog Tryd.f6) (phSize silSh + 2) silR0 2)) = true := by kernel_rfl
set_option maxRecDepth 1000000 in
theorem sil_round (g : Nat → Value) : roundOkR Tryd.prog (tabGl tabs35 0) callM (noKeep 6) 80 [silC] (lawEnd Tryd.prog Tryd.f6) (phSize silSh + 2) silCode ([] ++ silAx) silC silT g = true := by kernel_rfl
set_option maxRecDepth 1000000 in
theorem sil_body : Tryd.f6.body = some silCode := by kernel_rfl
section
variable {A : Nat → Nat → Int → Int} {b off cap m : Nat} {ns : List Int} {w : World}
theorem len_ax {ns : List Int} {m cap : Nat} {A : Nat → Nat → Int → Int} {w : World} {hs : List Ph} {b off : Nat} {l : Nat} (ht : TabsIn tabs35 w) (hA : ArrIn w (phKs hs) b off m cap A) (hns : phFits hs ns) (hl : ns.length = phSize hs) (hll : phSize hs = l) : SX.FsOk (envA FN (ns ++ [(m : Int), (cap : Int)]) A) (lenU l ++ phFacts hs 0) := by
  subst hll
  obtain ⟨_, _, s3, _, _⟩ := arr_start (m := phSize hs) tabs35 tabs35_nd ht hA FN (ns ++ [(m : Int), (cap : Int)]) (by rw [← hl]; simp) (by rw [← hl]; simp)
  obtain ⟨a1, a2⟩ := ph_append (hs := hs) (ms := [(m : Int), (cap : Int)]) (ss := ([] : List Value)) hl
  exact fsOk_app s3 (phFacts_ok (a2.2 hns))
theorem sil_case (ht : TabsIn tabs35 w) (hA : ArrIn w (phKs silSh) b off m cap A) (hns : phFits silSh ns) (hl : ns.length = phSize silSh) :
    Calls Tryd.prog 6 (phVals silSh ns [.slice (some ⟨b, off, none⟩) m cap]).toArray w fun e w' => e = .returned (.bool true) ∧ Below w.heap.size w w' :=
  pays_arr_cutX (rk := 2) (rs0 := silR0) (cuts := [silC]) (p := []) (ax := silAx) (call := callM) (keep := noKeep 6) (fuel := 80) (C := silCode) (fn := Tryd.f6) tabs35 tabs35_nd ht mixed FN Tryd.func6 sil_body rfl hA hns hl
    (fun _ h => by cases h) (len_ax ht hA hns hl rfl) rfl
    (fun ρ' hρ => callM_ok hρ.1 ht)
    (fun ρ' hρ c hc t htm r hr => by
      obtain rfl : c = silC := by simpa using hc
      obtain rfl : t = silT := by simpa [silC] using htm
      have hf : ρ'.fn = FN := hρ.1
      rcases List.mem_cons.1 (show r ∈ hearR (.var 4) (rdD sI) (rdAt sI) :: silent (.var 4) (.var 0) silT0 :: goodR (.var 4) (rdD sI) (rdAt sI) (.var 0) (.var 1) from hr) with rfl | hr
      · exact hearR_ok hf rfl
      · rcases List.mem_cons.1 hr with rfl | hr
        · exact silent_ok hf
        · exact goodR_ok hf r hr)
    (fun c hc t htm => by
      obtain rfl : c = silC := by simpa using hc
      obtain rfl : t = silT := by simpa [silC] using htm
      exact ⟨.leaf, fun g => CT.mk0 (sil_round g)⟩)
    (fun r hr => newRs_ok rfl r hr) sil_enter
end
set_option maxRecDepth 1000000 in
theorem sil_treeE : (callF Tryd.prog (tabGl tabs35 0) okF sums35 noKeep 80 30 6 (phArgs tabs35.length (phSize silSh) (some (inpNo tabs35.length (phKs silSh).length (phSize silSh))) silSh 0) (noHp tabs35) (phFacts silSh 0)).all isTrueF = true := by kernel_rfl
set_option maxRecDepth 1000000 in
theorem sil_treeN : (callF Tryd.prog (tabGl tabs35 0) okF sums35 noKeep 80 30 6 (phArgs tabs35.length (phSize silSh) (some rawNil) silSh 0) (noHp tabs35) (phFacts silSh 0)).all isTrueF = true := by kernel_rfl
theorem sil_pays (ns : List Int) (ss : List Value) (hf : phFits silSh ns) (hl : ns.length = phSize silSh) (w : World) (hss : slFits w silSh ss) (ht : TabsIn tabs35 w) : Calls Tryd.prog 6 (phVals silSh ns ss).toArray w fun e w' => e = .returned (.bool true) ∧ Below w.heap.size w w' :=
  pays_slice_arr (F := FN) tabs35 tabs35_nd mixed okF_ok rfl ht (fun ns A => sums35_ok _ ht) hf hl hss (fun b off len cap A hA hmax => sil_case ht hA hf hl) sil_treeE sil_treeN
end Go.Proofs.YtbjficjcgpgcbaaDoor
