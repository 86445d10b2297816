/- The law BoundarySends of layer 41: its ways. -/
import Derived.Test.YtfcpmapfhgibpaaDoorBoundarySendsR0
import Derived.Test.YtfcpmapfhgibpaaDoorBoundarySendsR5
import Derived.Test.YtfcpmapfhgibpaaDoorBoundarySendsR6
import Derived.Test.YtfcpmapfhgibpaaDoorBoundarySendsR1
import Derived.Test.YtfcpmapfhgibpaaDoorBoundarySendsR2
import Derived.Test.YtfcpmapfhgibpaaDoorBoundarySendsR3
import Derived.Test.YtfcpmapfhgibpaaDoorBoundarySendsR4
namespace Go.Proofs.YtfcpmapfhgibpaaDoor
open Go Go.RowKit SX Frm Frn
set_option linter.unusedVariables false
set_option linter.unusedSimpArgs false
set_option maxRecDepth 100000

theorem snd_k0 (g : Nat → Value) : ∀ i, i < 1 → sndOk sndC2 (sndM 0 i) g [] = true
  | 0, _ => snd_0_0 g
  | n + 1, h => absurd h (by omega)
theorem snd_k1 (g : Nat → Value) : ∀ i, i < 2 → sndOk sndC2 (sndM 1 i) g [] = true
  | 0, _ => snd_1_0 g
  | 1, _ => snd_1_1 g
  | n + 2, h => absurd h (by omega)
theorem snd_k2 (g : Nat → Value) : ∀ i, i < 3 → sndOk sndC2 (sndM 2 i) g [] = true
  | 0, _ => snd_2_0 g
  | 1, _ => snd_2_1 g
  | 2, _ => snd_2_2 g
  | n + 3, h => absurd h (by omega)
theorem snd_k3 (g : Nat → Value) : ∀ i, i < 4 → sndOk sndC2 (sndM 3 i) g [] = true
  | 0, _ => snd_3_0 g
  | 1, _ => snd_3_1 g
  | 2, _ => snd_3_2 g
  | 3, _ => snd_3_3 g
  | n + 4, h => absurd h (by omega)
theorem snd_k4 (g : Nat → Value) : ∀ i, i < 5 → sndOk sndC2 (sndM 4 i) g [] = true
  | 0, _ => snd_4_0 g
  | 1, _ => snd_4_1 g
  | 2, _ => snd_4_2 g
  | 3, _ => snd_4_3 g
  | 4, _ => snd_4_4 g
  | n + 5, h => absurd h (by omega)
theorem snd_k5 (g : Nat → Value) : ∀ i, i < 6 → sndOk sndC2 (sndM 5 i) g [] = true
  | 0, _ => snd_5_0 g
  | 1, _ => snd_5_1 g
  | 2, _ => snd_5_2 g
  | 3, _ => snd_5_3 g
  | 4, _ => snd_5_4 g
  | 5, _ => snd_5_5 g
  | n + 6, h => absurd h (by omega)
theorem snd_k6 (g : Nat → Value) : ∀ i, i < 7 → sndOk sndC2 (sndM 6 i) g [] = true
  | 0, _ => snd_6_0 g
  | 1, _ => snd_6_1 g
  | 2, _ => snd_6_2 g
  | 3, _ => snd_6_3 g
  | 4, _ => snd_6_4 g
  | 5, _ => snd_6_5 g
  | 6, _ => snd_6_6 g
  | n + 7, h => absurd h (by omega)
theorem snd_k7 (g : Nat → Value) : ∀ i, i < 8 → sndOk sndC2 (sndM 7 i) g [] = true
  | 0, _ => snd_7_0 g
  | 1, _ => snd_7_1 g
  | 2, _ => snd_7_2 g
  | 3, _ => snd_7_3 g
  | 4, _ => snd_7_4 g
  | 5, _ => snd_7_5 g
  | 6, _ => snd_7_6 g
  | 7, _ => snd_7_7 g
  | n + 8, h => absurd h (by omega)
theorem snd_k8 (g : Nat → Value) : ∀ i, i < 9 → sndOk sndC2 (sndM 8 i) g [] = true
  | 0, _ => snd_8_0 g
  | 1, _ => snd_8_1 g
  | 2, _ => snd_8_2 g
  | 3, _ => snd_8_3 g
  | 4, _ => snd_8_4 g
  | 5, _ => snd_8_5 g
  | 6, _ => snd_8_6 g
  | 7, _ => snd_8_7 g
  | 8, _ => snd_8_8 g
  | n + 9, h => absurd h (by omega)
def sndCT : CT := .split sLt (.split (kd 0) .leaf (.split (kd 1) .leaf (.split (kd 2) .leaf (.split (kd 3) .leaf (.split (kd 4) .leaf .leaf))))) (.split (cN 0) .leaf (.split (cN 1) .leaf (.split (cN 2) .leaf (.split (cN 3) .leaf (.split (cN 4) .leaf (.split (cN 5) .leaf (.split (cN 6) .leaf (.split (cN 7) .leaf .leaf))))))))
theorem snd_main (g : Nat → Value) : sndCT.all fun p => sndOk2 sndD sndT2 g p = true := CT.mk2 (CT.mk2 (CT.mk0 (snd_a0 g)) ((CT.mk2 (CT.mk0 (snd_a1 g)) ((CT.mk2 (CT.mk0 (snd_a2 g)) ((CT.mk2 (CT.mk0 (snd_a3 g)) ((CT.mk2 (CT.mk0 (snd_a4 g)) (CT.mk0 (snd_a5 g))))))))))) (CT.mk2 (CT.mk0 (snd_m0 g)) ((CT.mk2 (CT.mk0 (snd_m1 g)) ((CT.mk2 (CT.mk0 (snd_m2 g)) ((CT.mk2 (CT.mk0 (snd_m3 g)) ((CT.mk2 (CT.mk0 (snd_m4 g)) ((CT.mk2 (CT.mk0 (snd_m5 g)) ((CT.mk2 (CT.mk0 (snd_m6 g)) ((CT.mk2 (CT.mk0 (snd_m7 g)) (CT.mk0 (snd_m8 g)))))))))))))))))
theorem snd_all (g : Nat → Value) : ∀ k, k < 9 → ∀ i, i < k + 1 → sndOk sndC2 (sndM k i) g [] = true
  | 0, _ => snd_k0 g
  | 1, _ => snd_k1 g
  | 2, _ => snd_k2 g
  | 3, _ => snd_k3 g
  | 4, _ => snd_k4 g
  | 5, _ => snd_k5 g
  | 6, _ => snd_k6 g
  | 7, _ => snd_k7 g
  | 8, _ => snd_k8 g
  | n + 9, h => absurd h (by omega)
theorem snd_len {F : Nat → Nat → List Int → Int} {ns : List Int} {m cap : Nat} {A : Nat → Nat → Int → Int} {w : World} {hs : List Ph} {b off : Nat} {l : Nat} (ht : TabsIn tabs2 w) (hA : ArrIn w (phKs hs) b off m cap A) (hns : phFits hs ns) (hl : ns.length = phSize hs) (hll : phSize hs = l) : SX.FsOk (envA F (ns ++ [(m : Int), (cap : Int)]) A) (lenU l ++ phFacts hs 0) := by
  subst hll
  obtain ⟨_, _, s3, _, _⟩ := arr_start (m := phSize hs) tabs2 tabs2_nd ht hA F (ns ++ [(m : Int), (cap : Int)]) (by rw [← hl]; simp) (by rw [← hl]; simp)
  obtain ⟨a1, a2⟩ := ph_append (hs := hs) (ms := [(m : Int), (cap : Int)]) (ss := ([] : List Value)) hl
  exact fsOk_app s3 (phFacts_ok (a2.2 hns))
section
variable {A : Nat → Nat → Int → Int} {b off cap m : Nat} {ns : List Int} {w : World}
theorem snd_case (ht : TabsIn tabs2 w) (hA : ArrIn w (phKs sndSh) b off m cap A) (hns : phFits sndSh ns) (hl : ns.length = phSize sndSh) :
    Calls Tryd.prog 4 (phVals sndSh ns [.slice (some ⟨b, off, none⟩) m cap]).toArray w fun e w' => e = .returned (.bool true) ∧ Below w.heap.size w w' :=
  pays_arr_cutN (rs0 := []) (cuts := sndDs) (p := []) (ax := sndAx) (call := callL) (keep := noKeep 4) (fuel := 80) (C := sndCode) (fn := Tryd.f4) tabs2 tabs2_nd ht mixed nm100 Tryd.func4 snd_body rfl hA hns hl
    (fun _ h => by cases h) (snd_len ht hA hns hl rfl) rfl
    (fun ρ' hρ => callL_ok (by rw [hρ.1]; exact law100) ht)
    (fun ρ' hρ c hc t htm r hr => snd_rules2 (by rw [hρ.1]; exact law100.law) hc htm r hr)
    (fun c hc t htm => by
      simp only [sndDs, List.mem_cons, List.not_mem_nil, or_false] at hc
      rcases hc with rfl | rfl
      · obtain rfl : t = sndT2 := by simpa [sndD] using htm
        exact ⟨sndCT, fun g => snd_main g⟩
      · obtain ⟨k, hk, htm⟩ := List.mem_flatMap.1 (show t ∈ (List.range 9).flatMap fun k => (List.range (k + 1)).map (sndM k) from htm)
        obtain ⟨i, hi, rfl⟩ := List.mem_map.1 htm
        exact ⟨.leaf, fun g => CT.mk0 (ok_cut (snd_all g k (List.mem_range.1 hk) i (List.mem_range.1 hi)))⟩)
    (fun r hr => by cases hr) (enter_cut snd_enter)
end
set_option maxRecDepth 1000000 in
theorem snd_treeE : (callF Tryd.prog (tabGl tabs2 0) okF sums41 noKeep 80 30 4 (phArgs tabs2.length (phSize sndSh) (some (inpNo tabs2.length (phKs sndSh).length (phSize sndSh))) sndSh 0) (noHp tabs2) (phFacts sndSh 0)).all isTrueF = true := by kernel_rfl
set_option maxRecDepth 1000000 in
theorem snd_treeN : (callF Tryd.prog (tabGl tabs2 0) okF sums41 noKeep 80 30 4 (phArgs tabs2.length (phSize sndSh) (some rawNil) sndSh 0) (noHp tabs2) (phFacts sndSh 0)).all isTrueF = true := by kernel_rfl
theorem snd_pays (ns : List Int) (ss : List Value) (hf : phFits sndSh ns) (hl : ns.length = phSize sndSh) (w : World) (hss : slFits w sndSh ss) (ht : TabsIn tabs2 w) : Calls Tryd.prog 4 (phVals sndSh ns ss).toArray w fun e w' => e = .returned (.bool true) ∧ Below w.heap.size w w' :=
  pays_slice_arr (F := FN) tabs2 tabs2_nd mixed okF_ok rfl ht (fun ns A => sums41_ok _ ht) hf hl hss (fun b off len cap A hA hmax => snd_case ht hA hf hl) snd_treeE snd_treeN
end Go.Proofs.YtfcpmapfhgibpaaDoor
