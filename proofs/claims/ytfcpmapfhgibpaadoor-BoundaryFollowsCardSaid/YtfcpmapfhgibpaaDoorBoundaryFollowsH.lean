/- The law BoundaryFollows of layer 41: its templates and rounds. -/
import Derived.Test.YtfcpmapfhgibpaaDoorWz1
namespace Go.Proofs.YtfcpmapfhgibpaaDoor
open Go Go.RowKit SX Frm Frn
set_option linter.unusedVariables false
set_option linter.unusedSimpArgs false
set_option maxRecDepth 100000

def folSh : List Ph := [.sh confSh, .sl actLk]
def actsA : SV := .inp 2 24 0 (.var 11) (.var 11) (.var 12)
def folX : E := .var 13
def folI : E := .bin .zadd .i64 (.var 11) (.bin .zmul .i64 (.lit (-1)) (.var 15))
def confC : List SV := .int .u64 (.var 0) :: (List.range' 1 10).map fun i => .int .i64 (.var i)
def dsC (l : List E) : List SV := (dsK.zip l).map fun p => .int p.1 p.2
def folBx : List Box := tabBx2 ++ [⟨false, .arr 0 actLk (.var 11)⟩, ⟨true, .cells confC 26 0⟩, ⟨true, .obj 5 [folX]⟩, ⟨true, .cells (dsC ownE) 35 0⟩]
def folF : Fs := [oneF (okX folX), (lt0 (.var 7) (.lit 1), false), (lt0 (.lit 8) (.var 7), false), (lt0 folI (.lit 0), false), (lt0 (.var 15) (.lit 0), false)]
/-- At the loop over the acts. -/
def folT : TmN := ⟨⟨95, [(35, .int .i64 folI), (33, actsA), (34, .int .i64 (.var 11)), (7, .int .i64 (.var 14)), (2, .ptr 3 0), (5, .ptr 4 0), (6, .ptr 5 0)], folBx, folF⟩, .var 15, .lit 20, .lit 0, []⟩
def folC : CutN := ⟨[1, 1, 1, 1, 1, 1, 0, 1, 0], [folT]⟩
def folAx : Fs := lenU 11 ++ phFacts folSh 0
/-- How many slaves are counted below port p. -/
def folL (p : Nat) : SV := if p = 1 then .int .i64 (.lit 0) else .int .i64 (slE folX (litN p))
def folPF (p : Nat) : Fs := folF ++ [(lt0 (.lit 0) (.var 15), true), (lt0 (.var 7) (litN (p - 1)), false)] ++ (if p = 1 then [] else [(lt0 (slE folX (litN p)) (.lit 0), false), (lt0 (.lit 1) (slE folX (litN p)), false)])
/-- At the loop over the ports, at port p. -/
def folP (p : Nat) : TmN := ⟨⟨95, [(11, .int .i64 (litN p)), (10, folL p), (35, .int .i64 folI), (33, actsA), (34, .int .i64 (.var 11)), (7, .int .i64 (.var 14)), (2, .ptr 3 0), (5, .ptr 4 0), (6, .ptr 5 0)], folBx, folPF p⟩, .var 15, .lit (10 - Int.ofNat p), .lit 0, slRu0 folX :: (slRus folX p ++ farRus folX)⟩
def folC2 : CutN := ⟨[1, 1, 1, 1, 1, 1, 0, 1, 0, 0, 1, 1, 0, 0, 1, 1, 1, 1, 0, 1, 0], (List.range' 1 9).map folP⟩
def folCs : List CutN := [folC, folC2]
noncomputable def folCode : Code := (Tryd.f3.body).getD .skip
set_option maxRecDepth 1000000 in
theorem fol_enter : ((execP Tryd.prog (tabGl tabs2 0) callL (noKeep 3) 80 folCode (entrySt Tryd.f3 (phArgs tabs2.length (phSize folSh) none folSh 0) (arrHp tabs2 (phKs folSh) (phSize folSh)) (([] ++ folAx) ++ (lenU (phSize folSh) ++ phFacts folSh 0)))).all (leafOkN (tabGl tabs2 0) folCs (lawEnd Tryd.prog Tryd.f3) (phSize folSh + 2) [] (fun _ _ _ => true))) = true := by kernel_rfl
noncomputable abbrev folOk (c : CutN) (t : TmN) (g : Nat → Value) : Bool := roundOkN Tryd.prog (tabGl tabs2 0) callL (noKeep 3) 80 folCs (lawEnd Tryd.prog Tryd.f3) (phSize folSh + 2) folCode ([] ++ folAx) c t g
set_option maxRecDepth 1000000 in
theorem fol_main (g : Nat → Value) : folOk folC folT g = true := by kernel_rfl
set_option maxRecDepth 1000000 in
theorem fol_1 (g : Nat → Value) : folOk folC2 (folP 1) g = true := by kernel_rfl
set_option maxRecDepth 1000000 in
theorem fol_2 (g : Nat → Value) : folOk folC2 (folP 2) g = true := by kernel_rfl
set_option maxRecDepth 1000000 in
theorem fol_3 (g : Nat → Value) : folOk folC2 (folP 3) g = true := by kernel_rfl
set_option maxRecDepth 1000000 in
theorem fol_4 (g : Nat → Value) : folOk folC2 (folP 4) g = true := by kernel_rfl
set_option maxRecDepth 1000000 in
theorem fol_5 (g : Nat → Value) : folOk folC2 (folP 5) g = true := by kernel_rfl
set_option maxRecDepth 1000000 in
theorem fol_6 (g : Nat → Value) : folOk folC2 (folP 6) g = true := by kernel_rfl
set_option maxRecDepth 1000000 in
theorem fol_7 (g : Nat → Value) : folOk folC2 (folP 7) g = true := by kernel_rfl
set_option maxRecDepth 1000000 in
theorem fol_8 (g : Nat → Value) : folOk folC2 (folP 8) g = true := by kernel_rfl
set_option maxRecDepth 1000000 in
theorem fol_9 (g : Nat → Value) : folOk folC2 (folP 9) g = true := by kernel_rfl
set_option maxRecDepth 1000000 in
theorem fol_body : Tryd.f3.body = some folCode := by kernel_rfl
theorem fol_ports (g : Nat → Value) : ∀ p, p < 9 → folOk folC2 (folP (1 + p)) g = true
  | 0, _ => fol_1 g
  | 1, _ => fol_2 g
  | 2, _ => fol_3 g
  | 3, _ => fol_4 g
  | 4, _ => fol_5 g
  | 5, _ => fol_6 g
  | 6, _ => fol_7 g
  | 7, _ => fol_8 g
  | 8, _ => fol_9 g
  | n + 9, h => absurd h (by omega)
theorem folP_of {t : TmN} (h : t ∈ (List.range' 1 9).map folP) : ∃ p, p < 9 ∧ t = folP (1 + p) := by
  obtain ⟨q, hq, rfl⟩ := List.mem_map.1 h
  have := List.mem_range'_1.1 hq
  exact ⟨q - 1, by omega, by rw [show 1 + (q - 1) = q by omega]⟩
theorem fol_rules {ρ : Env} (hf : Law ρ.fn) {c : CutN} (hc : c ∈ folCs) {t : TmN} (ht : t ∈ c.ts) : ∀ r ∈ t.rs, RuleOk ρ r := by
  intro r hr
  simp only [folCs, List.mem_cons, List.not_mem_nil, or_false] at hc
  rcases hc with rfl | rfl
  · obtain rfl : t = folT := by simpa [folC] using ht
    cases hr
  · obtain ⟨p, hp, rfl⟩ := folP_of ht
    rcases List.mem_cons.1 (show r ∈ slRu0 folX :: (slRus folX (1 + p) ++ farRus folX) from hr) with rfl | hr
    · exact slRu0_ok hf _
    · rcases List.mem_append.1 hr with hr | hr
      · exact slRus_ok hf _ (by omega) (by omega) r hr
      · exact farRus_ok hf _ r hr
theorem len_ax2 {F : Nat → Nat → List Int → Int} {ns : List Int} {m cap : Nat} {A : Nat → Nat → Int → Int} {w : World} {hs : List Ph} {b off : Nat} {l : Nat} (ht : TabsIn tabs2 w) (hA : ArrIn w (phKs hs) b off m cap A) (hns : phFits hs ns) (hl : ns.length = phSize hs) (hll : phSize hs = l) : SX.FsOk (envA F (ns ++ [(m : Int), (cap : Int)]) A) (lenU l ++ phFacts hs 0) := by
  subst hll
  obtain ⟨_, _, s3, _, _⟩ := arr_start (m := phSize hs) tabs2 tabs2_nd ht hA F (ns ++ [(m : Int), (cap : Int)]) (by rw [← hl]; simp) (by rw [← hl]; simp)
  obtain ⟨a1, a2⟩ := ph_append (hs := hs) (ms := [(m : Int), (cap : Int)]) (ss := ([] : List Value)) hl
  exact fsOk_app s3 (phFacts_ok (a2.2 hns))
section
variable {A : Nat → Nat → Int → Int} {b off cap m : Nat} {ns : List Int} {w : World}
theorem fol_case (ht : TabsIn tabs2 w) (hA : ArrIn w (phKs folSh) b off m cap A) (hns : phFits folSh ns) (hl : ns.length = phSize folSh) :
    Calls Tryd.prog 3 (phVals folSh ns [.slice (some ⟨b, off, none⟩) m cap]).toArray w fun e w' => e = .returned (.bool true) ∧ Below w.heap.size w w' :=
  pays_arr_cutN (rs0 := []) (cuts := folCs) (p := []) (ax := folAx) (call := callL) (keep := noKeep 3) (fuel := 80) (C := folCode) (fn := Tryd.f3) tabs2 tabs2_nd ht mixed nm100 Tryd.func3 fol_body rfl hA hns hl
    (fun _ h => by cases h) (len_ax2 ht hA hns hl rfl) rfl
    (fun ρ' hρ => callL_ok (by rw [hρ.1]; exact law100) ht)
    (fun ρ' hρ c hc t htm r hr => fol_rules (by rw [hρ.1]; exact law100.law) hc htm r hr)
    (fun c hc t htm => by
      simp only [folCs, List.mem_cons, List.not_mem_nil, or_false] at hc
      rcases hc with rfl | rfl
      · obtain rfl : t = folT := by simpa [folC] using htm
        exact ⟨.leaf, fun g => CT.mk0 (fol_main g)⟩
      · obtain ⟨p, hp, rfl⟩ := folP_of htm
        exact ⟨.leaf, fun g => CT.mk0 (fol_ports g p hp)⟩)
    (fun r hr => by cases hr) fol_enter
end
set_option maxRecDepth 1000000 in
theorem fol_treeE : (callF Tryd.prog (tabGl tabs2 0) okF sums41 noKeep 80 30 3 (phArgs tabs2.length (phSize folSh) (some (inpNo tabs2.length (phKs folSh).length (phSize folSh))) folSh 0) (noHp tabs2) (phFacts folSh 0)).all isTrueF = true := by kernel_rfl
set_option maxRecDepth 1000000 in
theorem fol_treeN : (callF Tryd.prog (tabGl tabs2 0) okF sums41 noKeep 80 30 3 (phArgs tabs2.length (phSize folSh) (some rawNil) folSh 0) (noHp tabs2) (phFacts folSh 0)).all isTrueF = true := by kernel_rfl
theorem fol_pays (ns : List Int) (ss : List Value) (hf : phFits folSh ns) (hl : ns.length = phSize folSh) (w : World) (hss : slFits w folSh ss) (ht : TabsIn tabs2 w) : Calls Tryd.prog 3 (phVals folSh ns ss).toArray w fun e w' => e = .returned (.bool true) ∧ Below w.heap.size w w' :=
  pays_slice_arr (F := FN) tabs2 tabs2_nd mixed okF_ok rfl ht (fun ns A => sums41_ok _ ht) hf hl hss (fun b off len cap A hA hmax => fol_case ht hA hf hl) fol_treeE fol_treeN
end Go.Proofs.YtfcpmapfhgibpaaDoor
