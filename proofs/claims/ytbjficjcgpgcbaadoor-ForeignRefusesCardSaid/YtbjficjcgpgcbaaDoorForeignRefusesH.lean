/- The law ForeignRefuses of layer 35: its template. -/
import Derived.Test.YtbjficjcgpgcbaaDoorFt
namespace Go.Proofs.YtbjficjcgpgcbaaDoor
open Go Go.RowKit SX Frm Frn
set_option linter.unusedVariables false
set_option linter.unusedSimpArgs false

def refSh : List Ph := [.sl opLk, .sh (.agg opLk)]
def rI : E := .bin .zadd .i64 (.var 13) (.bin .zmul .i64 (.lit (-1)) (.var 16))
def xD : List E := (List.range 11).map fun j => .var (2 + j)
def refBx : List Box := [⟨false, .ro (cells35.map ofLeaf)⟩, ⟨false, .arr 0 opLk (.var 13)⟩, ⟨true, .cells (.int .i64 (.var 0) :: .int .i64 (.var 1) :: dsS (fun j => .var (2 + j))) 34 0⟩, ⟨true, .obj 1 [.var 15]⟩]
def refT : TmR := ⟨⟨100, [(7, .int .i64 rI), (0, .inp 1 13 0 (.var 13) (.var 13) (.var 14)), (3, .ptr 2 0), (5, .ptr 3 0), (6, .int .i64 (nowE (.var 15))), (15, .inp 1 13 0 (.var 13) (.var 13) (.var 14)), (16, .int .i64 (.var 13))],
  refBx, [(lt0 rI (.lit 0), false), (lt0 (.var 16) (.lit 0), false)]⟩, .var 16, hearR (.var 15) (rdD rI) (rdAt rI) :: wrongR (.var 15) xD (.var 1) (.var 8) (.var 9) (.var 11)⟩
def refC : CutR := ⟨[1, 1, 1, 1, 1, 0, 1, 0], 1, [refT]⟩
def refR0 : List Rule := [⟨[], [(eq0 (nowE (newE (.lit 1000) (.lit 1))) (.lit 0), true)]⟩]
def refAx : Fs := lenU 13 ++ phFacts refSh 0
noncomputable def refCode : Code := (Tryd.f8.body).getD .skip
set_option maxRecDepth 1000000 in
theorem ref_enter : ((execP Tryd.prog (tabGl tabs35 0) callL (noKeep 8) 80 refCode (entrySt Tryd.f8 (phArgs tabs35.length (phSize refSh) none refSh 0) (arrHp tabs35 (phKs refSh) (phSize refSh)) (([] ++ refAx) ++ (lenU (phSize refSh) ++ phFacts refSh 0)))).all (leafOkR (tabGl tabs35 0) [refC] (lawEnd Tryd.prog Tryd.f8) (phSize refSh + 2) refR0 2)) = true := by kernel_rfl
set_option maxRecDepth 1000000 in
theorem ref_round (g : Nat → Value) : roundOkR Tryd.prog (tabGl tabs35 0) callL (noKeep 8) 80 [refC] (lawEnd Tryd.prog Tryd.f8) (phSize refSh + 2) refCode ([] ++ refAx) refC refT g = true := by kernel_rfl
set_option maxRecDepth 1000000 in
theorem ref_body : Tryd.f8.body = some refCode := by kernel_rfl
theorem len_ax {ns : List Int} {m cap : Nat} {A : Nat → Nat → Int → Int} {w : World} {hs : List Ph} {b off : Nat} {l : Nat} (ht : TabsIn tabs35 w) (hA : ArrIn w (phKs hs) b off m cap A) (hns : phFits hs ns) (hl : ns.length = phSize hs) (hll : phSize hs = l) : SX.FsOk (envA FN (ns ++ [(m : Int), (cap : Int)]) A) (lenU l ++ phFacts hs 0) := by
  subst hll
  obtain ⟨_, _, s3, _, _⟩ := arr_start (m := phSize hs) tabs35 tabs35_nd ht hA FN (ns ++ [(m : Int), (cap : Int)]) (by rw [← hl]; simp) (by rw [← hl]; simp)
  obtain ⟨a1, a2⟩ := ph_append (hs := hs) (ms := [(m : Int), (cap : Int)]) (ss := ([] : List Value)) hl
  exact fsOk_app s3 (phFacts_ok (a2.2 hns))
section
variable {A : Nat → Nat → Int → Int} {b off cap m : Nat} {ns : List Int} {w : World}
theorem ref_case (ht : TabsIn tabs35 w) (hA : ArrIn w (phKs refSh) b off m cap A) (hns : phFits refSh ns) (hl : ns.length = phSize refSh) :
    Calls Tryd.prog 8 (phVals refSh ns [.slice (some ⟨b, off, none⟩) m cap]).toArray w fun e w' => e = .returned (.bool true) ∧ Below w.heap.size w w' :=
  pays_arr_cutX (rk := 2) (rs0 := refR0) (cuts := [refC]) (p := []) (ax := refAx) (call := callL) (keep := noKeep 8) (fuel := 80) (C := refCode) (fn := Tryd.f8) tabs35 tabs35_nd ht mixed FN Tryd.func8 ref_body rfl hA hns hl
    (fun _ h => by cases h) (len_ax ht hA hns hl rfl) rfl
    (fun ρ' hρ => callL_ok hρ.1 ht)
    (fun ρ' hρ c hc t htm r hr => by
      obtain rfl : c = refC := by simpa using hc
      obtain rfl : t = refT := by simpa [refC] using htm
      have hf : ρ'.fn = FN := hρ.1
      rcases List.mem_cons.1 (show r ∈ hearR (.var 15) (rdD rI) (rdAt rI) :: wrongR (.var 15) xD (.var 1) (.var 8) (.var 9) (.var 11) from hr) with rfl | hr
      · exact hearR_ok hf rfl
      · exact wrongR_ok hf rfl rfl rfl rfl r hr)
    (fun c hc t htm => by
      obtain rfl : c = refC := by simpa using hc
      obtain rfl : t = refT := by simpa [refC] using htm
      exact ⟨.leaf, fun g => CT.mk0 (ref_round g)⟩)
    (fun r hr => by
      obtain rfl : r = ⟨[], [(eq0 (nowE (newE (.lit 1000) (.lit 1))) (.lit 0), true)]⟩ := by simpa [refR0] using hr
      exact newR_ok rfl _ _) ref_enter
end
set_option maxRecDepth 1000000 in
theorem ref_treeE : (callF Tryd.prog (tabGl tabs35 0) okF sums35 noKeep 80 30 8 (phArgs tabs35.length (phSize refSh) (some (inpNo tabs35.length (phKs refSh).length (phSize refSh))) refSh 0) (noHp tabs35) (phFacts refSh 0)).all isTrueF = true := by kernel_rfl
set_option maxRecDepth 1000000 in
theorem ref_treeN : (callF Tryd.prog (tabGl tabs35 0) okF sums35 noKeep 80 30 8 (phArgs tabs35.length (phSize refSh) (some rawNil) refSh 0) (noHp tabs35) (phFacts refSh 0)).all isTrueF = true := by kernel_rfl
theorem ref_pays (ns : List Int) (ss : List Value) (hf : phFits refSh ns) (hl : ns.length = phSize refSh) (w : World) (hss : slFits w refSh ss) (ht : TabsIn tabs35 w) : Calls Tryd.prog 8 (phVals refSh ns ss).toArray w fun e w' => e = .returned (.bool true) ∧ Below w.heap.size w w' :=
  pays_slice_arr (F := FN) tabs35 tabs35_nd mixed okF_ok rfl ht (fun ns A => sums35_ok _ ht) hf hl hss (fun b off len cap A hA hmax => ref_case ht hA hf hl) ref_treeE ref_treeN
end Go.Proofs.YtbjficjcgpgcbaaDoor
