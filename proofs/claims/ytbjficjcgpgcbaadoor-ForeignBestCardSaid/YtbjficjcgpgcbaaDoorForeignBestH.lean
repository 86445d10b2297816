/- The law ForeignBest of layer 35: its templates. -/
import Derived.Test.YtbjficjcgpgcbaaDoorFx
namespace Go.Proofs.YtbjficjcgpgcbaaDoor
open Go Go.RowKit SX Frm Frn
set_option linter.unusedVariables false
set_option linter.unusedSimpArgs false

def besSh : List Ph := [.sh (.agg [.int .i64, .int .i64]), .sl opLk, .sh (.one (.int .i64))]
def bI : E := .bin .zadd .i64 (.var 3) (.bin .zmul .i64 (.lit (-1)) (.var 6))
def bX : E := .var 5
def bT : E := .var 2
def besBx : List Box := [⟨false, .ro (cells35.map ofLeaf)⟩, ⟨false, .arr 0 opLk (.var 3)⟩, ⟨true, .cells [.int .i64 (.var 0), .int .i64 (.var 1)] 23 0⟩, ⟨true, .obj 1 [.var 5]⟩]
def beG (x : E) : Fs := [(one1 (goodE x), true)]
def besT : TmR := ⟨⟨98, [(8, .int .i64 bI), (1, .inp 1 13 0 (.var 3) (.var 3) (.var 4)), (2, .int .i64 (.var 2)), (3, .ptr 2 0), (7, .ptr 3 0), (22, .inp 1 13 0 (.var 3) (.var 3) (.var 4)), (23, .int .i64 (.var 3))],
  besBx, beG bX ++ [(lt0 bI (.lit 0), false), (lt0 (.var 6) (.lit 0), false)]⟩, .var 6, startR bX bT :: goodR bX (rdD bI) (rdAt bI) (.var 0) (.var 1)⟩
def setS (l : List E) : List SV := (List.range 11).map fun j => .int (knd j) (l.getD j (.lit 0))
def besBx2 (m : Nat) : List Box := besBx ++ (if m = 0 then [] else [⟨true, .cells ((List.range m).flatMap fun i => setS (qfS bX bT i)) 32 12⟩]) ++ [⟨true, .cells (setS (bstS bX bT)) 32 0⟩]
def besRs2 (m i : Nat) : List Rule := bestR0 bX bT m :: (if m = 0 then [zeroR bX bT] else if i < m then stepR bX bT m i else [])
def besT2 (m i : Nat) : TmR := ⟨⟨98, [(9, if m = 0 then .raw (.slice none 0 0) else .slice 4 0 m none), (10, .ptr (if m = 0 then 4 else 5) 0), (11, .bool (bokE bX bT)), (12, .bool (fnd bX bT i)), (13, .int .i64 (.lit (Int.ofNat i)))],
  besBx2 m, beG bX ++ [qnIs bX bT m]⟩, .lit (Int.ofNat (m - i)), besRs2 m i⟩
def besC : CutR := ⟨[1, 1, 1, 0, 1, 0], 2, [besT]⟩
def besTs : List TmR := (List.range 6).flatMap fun m => (List.range (m + 1)).map fun i => besT2 m i
def besC2 : CutR := ⟨[1, 1, 1, 1, 1, 1, 1, 0, 1, 0], 1, besTs⟩
def besAx : Fs := lenU 3 ++ phFacts besSh 0
def besCs : List CutR := [besC, besC2]
def besR0 : List Rule := newRs (.var 0) (.var 1)
noncomputable def besCode : Code := (Tryd.f5.body).getD .skip
set_option maxRecDepth 1000000 in
theorem bes_enter : ((execP Tryd.prog (tabGl tabs35 0) callM (noKeep 5) 80 besCode (entrySt Tryd.f5 (phArgs tabs35.length (phSize besSh) none besSh 0) (arrHp tabs35 (phKs besSh) (phSize besSh)) (([] ++ besAx) ++ (lenU (phSize besSh) ++ phFacts besSh 0)))).all (leafOkR (tabGl tabs35 0) besCs (lawEnd Tryd.prog Tryd.f5) (phSize besSh + 2) besR0 3)) = true := by kernel_rfl
set_option maxRecDepth 1000000 in
theorem bes_round (g : Nat → Value) : roundOkR Tryd.prog (tabGl tabs35 0) callM (noKeep 5) 80 besCs (lawEnd Tryd.prog Tryd.f5) (phSize besSh + 2) besCode ([] ++ besAx) besC besT g = true := by kernel_rfl
set_option maxRecDepth 1000000 in
theorem bes_round2_0 (g : Nat → Value) : ((List.range 1).all fun i => roundOkR Tryd.prog (tabGl tabs35 0) callM (noKeep 5) 80 besCs (lawEnd Tryd.prog Tryd.f5) (phSize besSh + 2) besCode ([] ++ besAx) besC2 (besT2 0 i) g) = true := by kernel_rfl
set_option maxRecDepth 1000000 in
theorem bes_round2_1 (g : Nat → Value) : ((List.range 2).all fun i => roundOkR Tryd.prog (tabGl tabs35 0) callM (noKeep 5) 80 besCs (lawEnd Tryd.prog Tryd.f5) (phSize besSh + 2) besCode ([] ++ besAx) besC2 (besT2 1 i) g) = true := by kernel_rfl
set_option maxRecDepth 1000000 in
theorem bes_round2_2 (g : Nat → Value) : ((List.range 3).all fun i => roundOkR Tryd.prog (tabGl tabs35 0) callM (noKeep 5) 80 besCs (lawEnd Tryd.prog Tryd.f5) (phSize besSh + 2) besCode ([] ++ besAx) besC2 (besT2 2 i) g) = true := by kernel_rfl
set_option maxRecDepth 1000000 in
theorem bes_round2_3 (g : Nat → Value) : ((List.range 4).all fun i => roundOkR Tryd.prog (tabGl tabs35 0) callM (noKeep 5) 80 besCs (lawEnd Tryd.prog Tryd.f5) (phSize besSh + 2) besCode ([] ++ besAx) besC2 (besT2 3 i) g) = true := by kernel_rfl
set_option maxRecDepth 1000000 in
theorem bes_round2_4 (g : Nat → Value) : ((List.range 5).all fun i => roundOkR Tryd.prog (tabGl tabs35 0) callM (noKeep 5) 80 besCs (lawEnd Tryd.prog Tryd.f5) (phSize besSh + 2) besCode ([] ++ besAx) besC2 (besT2 4 i) g) = true := by kernel_rfl
set_option maxRecDepth 1000000 in
theorem bes_round2_5 (g : Nat → Value) : ((List.range 6).all fun i => roundOkR Tryd.prog (tabGl tabs35 0) callM (noKeep 5) 80 besCs (lawEnd Tryd.prog Tryd.f5) (phSize besSh + 2) besCode ([] ++ besAx) besC2 (besT2 5 i) g) = true := by kernel_rfl
theorem bes_round2 (g : Nat → Value) : ∀ (m i : Nat), m < 6 → i < m + 1 → roundOkR Tryd.prog (tabGl tabs35 0) callM (noKeep 5) 80 besCs (lawEnd Tryd.prog Tryd.f5) (phSize besSh + 2) besCode ([] ++ besAx) besC2 (besT2 m i) g = true
  | 0, i, _, hi => List.all_eq_true.1 (bes_round2_0 g) i (List.mem_range.2 hi)
  | 1, i, _, hi => List.all_eq_true.1 (bes_round2_1 g) i (List.mem_range.2 hi)
  | 2, i, _, hi => List.all_eq_true.1 (bes_round2_2 g) i (List.mem_range.2 hi)
  | 3, i, _, hi => List.all_eq_true.1 (bes_round2_3 g) i (List.mem_range.2 hi)
  | 4, i, _, hi => List.all_eq_true.1 (bes_round2_4 g) i (List.mem_range.2 hi)
  | 5, i, _, hi => List.all_eq_true.1 (bes_round2_5 g) i (List.mem_range.2 hi)
  | n + 6, _, h, _ => absurd h (by omega)
set_option maxRecDepth 1000000 in
theorem bes_body : Tryd.f5.body = some besCode := by kernel_rfl
theorem len_ax {ns : List Int} {m cap : Nat} {A : Nat → Nat → Int → Int} {w : World} {hs : List Ph} {b off : Nat} {l : Nat} (ht : TabsIn tabs35 w) (hA : ArrIn w (phKs hs) b off m cap A) (hns : phFits hs ns) (hl : ns.length = phSize hs) (hll : phSize hs = l) : SX.FsOk (envA FN (ns ++ [(m : Int), (cap : Int)]) A) (lenU l ++ phFacts hs 0) := by
  subst hll
  obtain ⟨_, _, s3, _, _⟩ := arr_start (m := phSize hs) tabs35 tabs35_nd ht hA FN (ns ++ [(m : Int), (cap : Int)]) (by rw [← hl]; simp) (by rw [← hl]; simp)
  obtain ⟨a1, a2⟩ := ph_append (hs := hs) (ms := [(m : Int), (cap : Int)]) (ss := ([] : List Value)) hl
  exact fsOk_app s3 (phFacts_ok (a2.2 hns))
theorem bes_rules {ρ : Env} (hf : ρ.fn = FN) {c : CutR} (hc : c ∈ besCs) {t : TmR} (ht : t ∈ c.ts) : ∀ r ∈ t.rs, RuleOk ρ r := by
  intro r hr
  simp only [besCs, List.mem_cons, List.not_mem_nil, or_false] at hc
  rcases hc with rfl | rfl
  · obtain rfl : t = besT := by simpa [besC] using ht
    rcases List.mem_cons.1 (show r ∈ startR bX bT :: goodR bX (rdD bI) (rdAt bI) (.var 0) (.var 1) from hr) with rfl | hr
    · exact startR_ok hf _ _
    · exact goodR_ok hf r hr
  · obtain ⟨m, _, ht⟩ := List.mem_flatMap.1 (show t ∈ besTs from ht)
    obtain ⟨i, _, rfl⟩ := List.mem_map.1 ht
    rcases List.mem_cons.1 (show r ∈ bestR0 bX bT m :: (if m = 0 then [zeroR bX bT] else if i < m then stepR bX bT m i else []) from hr) with rfl | hr
    · exact bestR0_ok hf _ _ _
    · split at hr
      · obtain rfl := List.mem_singleton.1 hr
        exact zeroR_ok hf _ _
      · split at hr
        · rename_i h
          exact stepR_ok hf h r hr
        · cases hr
section
variable {A : Nat → Nat → Int → Int} {b off cap m : Nat} {ns : List Int} {w : World}
theorem bes_case (ht : TabsIn tabs35 w) (hA : ArrIn w (phKs besSh) b off m cap A) (hns : phFits besSh ns) (hl : ns.length = phSize besSh) :
    Calls Tryd.prog 5 (phVals besSh ns [.slice (some ⟨b, off, none⟩) m cap]).toArray w fun e w' => e = .returned (.bool true) ∧ Below w.heap.size w w' :=
  pays_arr_cutX (rk := 3) (rs0 := besR0) (cuts := besCs) (p := []) (ax := besAx) (call := callM) (keep := noKeep 5) (fuel := 80) (C := besCode) (fn := Tryd.f5) tabs35 tabs35_nd ht mixed FN Tryd.func5 bes_body rfl hA hns hl
    (fun _ h => by cases h) (len_ax ht hA hns hl rfl) rfl
    (fun ρ' hρ => callM_ok hρ.1 ht)
    (fun ρ' hρ c hc t htm r hr => bes_rules hρ.1 hc htm r hr)
    (fun c hc t htm => by
      simp only [besCs, List.mem_cons, List.not_mem_nil, or_false] at hc
      rcases hc with rfl | rfl
      · obtain rfl : t = besT := by simpa [besC] using htm
        exact ⟨.leaf, fun g => CT.mk0 (bes_round g)⟩
      · obtain ⟨m, hm, htm⟩ := List.mem_flatMap.1 (show t ∈ besTs from htm)
        obtain ⟨i, hi, rfl⟩ := List.mem_map.1 htm
        exact ⟨.leaf, fun g => CT.mk0 (bes_round2 g m i (List.mem_range.1 hm) (List.mem_range.1 hi))⟩)
    (fun r hr => newRs_ok rfl r hr) bes_enter
end
set_option maxRecDepth 1000000 in
theorem bes_treeE : (callF Tryd.prog (tabGl tabs35 0) okF sums35 noKeep 80 30 5 (phArgs tabs35.length (phSize besSh) (some (inpNo tabs35.length (phKs besSh).length (phSize besSh))) besSh 0) (noHp tabs35) (phFacts besSh 0)).all isTrueF = true := by kernel_rfl
set_option maxRecDepth 1000000 in
theorem bes_treeN : (callF Tryd.prog (tabGl tabs35 0) okF sums35 noKeep 80 30 5 (phArgs tabs35.length (phSize besSh) (some rawNil) besSh 0) (noHp tabs35) (phFacts besSh 0)).all isTrueF = true := by kernel_rfl
theorem bes_pays (ns : List Int) (ss : List Value) (hf : phFits besSh ns) (hl : ns.length = phSize besSh) (w : World) (hss : slFits w besSh ss) (ht : TabsIn tabs35 w) : Calls Tryd.prog 5 (phVals besSh ns ss).toArray w fun e w' => e = .returned (.bool true) ∧ Below w.heap.size w w' :=
  pays_slice_arr (F := FN) tabs35 tabs35_nd mixed okF_ok rfl ht (fun ns A => sums35_ok _ ht) hf hl hss (fun b off len cap A hA hmax => bes_case ht hA hf hl) bes_treeE bes_treeN
end Go.Proofs.YtbjficjcgpgcbaaDoor
