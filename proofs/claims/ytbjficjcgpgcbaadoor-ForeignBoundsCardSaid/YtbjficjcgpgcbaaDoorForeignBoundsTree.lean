/- The law ForeignBounds of layer 35: its walk. -/
import Derived.Test.YtbjficjcgpgcbaaDoorForeignBoundsR0
import Derived.Test.YtbjficjcgpgcbaaDoorForeignBoundsR1
import Derived.Test.YtbjficjcgpgcbaaDoorForeignBoundsR2
import Derived.Test.YtbjficjcgpgcbaaDoorForeignBoundsR3
import Derived.Test.YtbjficjcgpgcbaaDoorForeignBoundsR4
import Derived.Test.YtbjficjcgpgcbaaDoorForeignBoundsR5
import Derived.Test.YtbjficjcgpgcbaaDoorForeignBoundsR6
import Derived.Test.YtbjficjcgpgcbaaDoorForeignBoundsR7
import Derived.Test.YtbjficjcgpgcbaaDoorForeignBoundsR8
namespace Go.Proofs.YtbjficjcgpgcbaaDoor
open Go Go.RowKit SX Frm Frn
set_option linter.unusedVariables false
set_option linter.unusedSimpArgs false

theorem bou_round2 (g : Nat → Value) : ∀ (m k f : Nat), m < 6 → k < m + 1 → f < 2 → bouOk bouC2 (bouT2 m k f) g = true
  | 0, k, f, _, hk, hf => List.all_eq_true.1 (List.all_eq_true.1 (bou_r2_0 g) k (List.mem_range.2 hk)) f (List.mem_range.2 hf)
  | 1, k, f, _, hk, hf => List.all_eq_true.1 (List.all_eq_true.1 (bou_r2_1 g) k (List.mem_range.2 hk)) f (List.mem_range.2 hf)
  | 2, k, f, _, hk, hf => List.all_eq_true.1 (List.all_eq_true.1 (bou_r2_2 g) k (List.mem_range.2 hk)) f (List.mem_range.2 hf)
  | 3, k, f, _, hk, hf => List.all_eq_true.1 (List.all_eq_true.1 (bou_r2_3 g) k (List.mem_range.2 hk)) f (List.mem_range.2 hf)
  | 4, k, f, _, hk, hf => List.all_eq_true.1 (List.all_eq_true.1 (bou_r2_4 g) k (List.mem_range.2 hk)) f (List.mem_range.2 hf)
  | 5, 0, f, _, _, hf => List.all_eq_true.1 (bou_r2_5_0 g) f (List.mem_range.2 hf)
  | 5, 1, f, _, _, hf => List.all_eq_true.1 (bou_r2_5_1 g) f (List.mem_range.2 hf)
  | 5, 2, f, _, _, hf => List.all_eq_true.1 (bou_r2_5_2 g) f (List.mem_range.2 hf)
  | 5, 3, f, _, _, hf => List.all_eq_true.1 (bou_r2_5_3 g) f (List.mem_range.2 hf)
  | 5, 4, f, _, _, hf => List.all_eq_true.1 (bou_r2_5_4 g) f (List.mem_range.2 hf)
  | 5, 5, f, _, _, hf => List.all_eq_true.1 (bou_r2_5_5 g) f (List.mem_range.2 hf)
  | 5, n + 6, f, _, h, _ => absurd h (by omega)
  | n + 6, _, _, h, _, _ => absurd h (by omega)
theorem bou_round3 (g : Nat → Value) : ∀ (m k j f : Nat), m < 6 → k < m → j < k + 1 → f < 2 → bouOk bouC3 (bouT3 m k j f) g = true
  | 0, k, j, f, _, hk, hj, hf => List.all_eq_true.1 (List.all_eq_true.1 (List.all_eq_true.1 (bou_r3_0 g) k (List.mem_range.2 hk)) j (List.mem_range.2 hj)) f (List.mem_range.2 hf)
  | 1, k, j, f, _, hk, hj, hf => List.all_eq_true.1 (List.all_eq_true.1 (List.all_eq_true.1 (bou_r3_1 g) k (List.mem_range.2 hk)) j (List.mem_range.2 hj)) f (List.mem_range.2 hf)
  | 2, k, j, f, _, hk, hj, hf => List.all_eq_true.1 (List.all_eq_true.1 (List.all_eq_true.1 (bou_r3_2 g) k (List.mem_range.2 hk)) j (List.mem_range.2 hj)) f (List.mem_range.2 hf)
  | 3, k, j, f, _, hk, hj, hf => List.all_eq_true.1 (List.all_eq_true.1 (List.all_eq_true.1 (bou_r3_3 g) k (List.mem_range.2 hk)) j (List.mem_range.2 hj)) f (List.mem_range.2 hf)
  | 4, k, j, f, _, hk, hj, hf => List.all_eq_true.1 (List.all_eq_true.1 (List.all_eq_true.1 (bou_r3_4 g) k (List.mem_range.2 hk)) j (List.mem_range.2 hj)) f (List.mem_range.2 hf)
  | 5, 0, j, f, _, _, hj, hf => List.all_eq_true.1 (List.all_eq_true.1 (bou_r3_5_0 g) j (List.mem_range.2 hj)) f (List.mem_range.2 hf)
  | 5, 1, j, f, _, _, hj, hf => List.all_eq_true.1 (List.all_eq_true.1 (bou_r3_5_1 g) j (List.mem_range.2 hj)) f (List.mem_range.2 hf)
  | 5, 2, j, f, _, _, hj, hf => List.all_eq_true.1 (List.all_eq_true.1 (bou_r3_5_2 g) j (List.mem_range.2 hj)) f (List.mem_range.2 hf)
  | 5, 3, j, f, _, _, hj, hf => List.all_eq_true.1 (List.all_eq_true.1 (bou_r3_5_3 g) j (List.mem_range.2 hj)) f (List.mem_range.2 hf)
  | 5, 4, j, f, _, _, hj, hf => List.all_eq_true.1 (List.all_eq_true.1 (bou_r3_5_4 g) j (List.mem_range.2 hj)) f (List.mem_range.2 hf)
  | 5, n + 5, _, f, _, h, _, _ => absurd h (by omega)
  | n + 6, _, _, _, h, _, _, _ => absurd h (by omega)
section
variable {A : Nat → Nat → Int → Int} {b off cap m : Nat} {ns : List Int} {w : World}
theorem bou_case (ht : TabsIn tabs35 w) (hA : ArrIn w (phKs bouSh) b off m cap A) (hns : phFits bouSh ns) (hl : ns.length = phSize bouSh) :
    Calls Tryd.prog 4 (phVals bouSh ns [.slice (some ⟨b, off, none⟩) m cap]).toArray w fun e w' => e = .returned (.bool true) ∧ Below w.heap.size w w' :=
  pays_arr_cutN (rs0 := bouR0) (cuts := bouCs) (p := []) (ax := bouAx) (call := callM) (keep := noKeep 4) (fuel := 80) (C := bouCode) (fn := Tryd.f4) tabs35 tabs35_nd ht mixed FN Tryd.func4 bou_body rfl hA hns hl
    (fun _ h => by cases h) (len_ax ht hA hns hl rfl) rfl
    (fun ρ' hρ => callM_ok hρ.1 ht)
    (fun ρ' hρ c hc t htm r hr => bou_rules hρ.1 hc htm r hr)
    (fun c hc t htm => by
      simp only [bouCs, List.mem_cons, List.not_mem_nil, or_false] at hc
      rcases hc with rfl | rfl | rfl
      · obtain rfl : t = bouT := by simpa [bouC] using htm
        exact ⟨.leaf, fun g => CT.mk0 (bou_round g)⟩
      · obtain ⟨m, hm, htm⟩ := List.mem_flatMap.1 (show t ∈ (List.range 6).flatMap fun m => (List.range (m + 1)).flatMap fun k => (List.range 2).map fun f => bouT2 m k f from htm)
        obtain ⟨k, hk, htm⟩ := List.mem_flatMap.1 htm
        obtain ⟨f, hf, rfl⟩ := List.mem_map.1 htm
        exact ⟨.leaf, fun g => CT.mk0 (bou_round2 g m k f (List.mem_range.1 hm) (List.mem_range.1 hk) (List.mem_range.1 hf))⟩
      · obtain ⟨m, hm, htm⟩ := List.mem_flatMap.1 (show t ∈ (List.range 6).flatMap fun m => (List.range m).flatMap fun k => (List.range (k + 1)).flatMap fun j => (List.range 2).map fun f => bouT3 m k j f from htm)
        obtain ⟨k, hk, htm⟩ := List.mem_flatMap.1 htm
        obtain ⟨j, hj, htm⟩ := List.mem_flatMap.1 htm
        obtain ⟨f, hf, rfl⟩ := List.mem_map.1 htm
        exact ⟨.leaf, fun g => CT.mk0 (bou_round3 g m k j f (List.mem_range.1 hm) (List.mem_range.1 hk) (List.mem_range.1 hj) (List.mem_range.1 hf))⟩)
    (fun r hr => newRs_ok rfl r hr) bou_enter
end
set_option maxRecDepth 1000000 in
theorem bou_treeE : (callF Tryd.prog (tabGl tabs35 0) okF sums35 noKeep 80 30 4 (phArgs tabs35.length (phSize bouSh) (some (inpNo tabs35.length (phKs bouSh).length (phSize bouSh))) bouSh 0) (noHp tabs35) (phFacts bouSh 0)).all isTrueF = true := by kernel_rfl
set_option maxRecDepth 1000000 in
theorem bou_treeN : (callF Tryd.prog (tabGl tabs35 0) okF sums35 noKeep 80 30 4 (phArgs tabs35.length (phSize bouSh) (some rawNil) bouSh 0) (noHp tabs35) (phFacts bouSh 0)).all isTrueF = true := by kernel_rfl
theorem bou_pays (ns : List Int) (ss : List Value) (hf : phFits bouSh ns) (hl : ns.length = phSize bouSh) (w : World) (hss : slFits w bouSh ss) (ht : TabsIn tabs35 w) : Calls Tryd.prog 4 (phVals bouSh ns ss).toArray w fun e w' => e = .returned (.bool true) ∧ Below w.heap.size w w' :=
  pays_slice_arr (F := FN) tabs35 tabs35_nd mixed okF_ok rfl ht (fun ns A => sums35_ok _ ht) hf hl hss (fun b off len cap A hA hmax => bou_case ht hA hf hl) bou_treeE bou_treeN
end Go.Proofs.YtbjficjcgpgcbaaDoor
