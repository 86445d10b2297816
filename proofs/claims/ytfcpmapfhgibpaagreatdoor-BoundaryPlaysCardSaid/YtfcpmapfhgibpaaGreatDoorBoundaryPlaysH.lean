/- The law BoundaryPlays of layer 41: its templates and rounds. -/
import Derived.Test.YtfcpmapfhgibpaaGreatDoorWz7
import Derived.Test.YtfcpmapfhgibpaaGreatDoorWf
set_option linter.unusedVariables false
set_option linter.unusedSimpArgs false
set_option maxRecDepth 1000000
namespace Go.Proofs.YtfcpmapfhgibpaaGreatDoor
noncomputable section
open Go Go.RowKit SX Frm Frn
def plySh : List Ph := [.sh confSh, .sl actLk]
def actsP : SV := .inp 2 24 0 (.var 11) (.var 11) (.var 12)
def plyI : E := .bin .zadd .i64 (.var 11) (.bin .zmul .i64 (.lit (-1)) (.var 15))
def plyBx : List Box := tabBx2 ++ [⟨false, .arr 0 actLk (.var 11)⟩, ⟨true, .obj 5 [.var 13]⟩, ⟨true, .obj 6 [.var 13]⟩]
def plyF : Fs := [(lt0 plyI (.lit 0), false), (lt0 (.var 15) (.lit 0), false)]
def plyT : TmN := ⟨⟨105, [(45, .int .i64 plyI), (43, actsP), (44, .int .i64 (.var 11)), (7, .int .i64 (.var 14)), (5, .ptr 3 0), (6, .ptr 4 0)], plyBx, plyF⟩, .var 15, .lit 20, .lit 0, []⟩
def plyC : CutN := ⟨[1, 1, 1, 1, 1, 1, 0, 1, 0], [plyT]⟩
def plyAx : Fs := lenU 11 ++ phFacts plySh 0
def plyPF : Fs := plyF ++ [(lt0 (.lit 0) (.var 15), true)]
def plyP (p : Nat) : TmN := ⟨⟨105, [(14, .int .i64 (litN p)), (45, .int .i64 plyI), (43, actsP), (44, .int .i64 (.var 11)), (7, .int .i64 (.var 14)), (5, .ptr 3 0), (6, .ptr 4 0)], plyBx, plyPF⟩, .var 15, .lit (10 - Int.ofNat p), .lit 0, []⟩
def plyC2 : CutN := ⟨[1, 1, 1, 1, 1, 1, 0, 1, 0, 0, 1, 1, 0, 0, 1, 1, 1, 1, 1, 1, 1, 0], (List.range 11).map plyP⟩
def plyCs : List CutN := [plyC, plyC2]
def plyCode : Code := (Tryz.f3.body).getD .skip
theorem ply_enter : ((execP Tryz.prog (tabGl tabs2 0) callP (noKeep 3) 80 plyCode (entrySt Tryz.f3 (phArgs tabs2.length (phSize plySh) none plySh 0) (arrHp tabs2 (phKs plySh) (phSize plySh)) (([] ++ plyAx) ++ (lenU (phSize plySh) ++ phFacts plySh 0)))).all (leafOkN (tabGl tabs2 0) plyCs (lawEnd Tryz.prog Tryz.f3) (phSize plySh + 2) [] (fun _ _ _ => true))) = true := by kernel_rfl
abbrev plyOk (c : CutN) (t : TmN) (g : Nat -> Value) : Bool := roundOkN Tryz.prog (tabGl tabs2 0) callP (noKeep 3) 80 plyCs (lawEnd Tryz.prog Tryz.f3) (phSize plySh + 2) plyCode ([] ++ plyAx) c t g
theorem ply_main (g : Nat -> Value) : plyOk plyC plyT g = true := by kernel_rfl
theorem ply_0 (g : Nat -> Value) : plyOk plyC2 (plyP 0) g = true := by kernel_rfl
theorem ply_1 (g : Nat -> Value) : plyOk plyC2 (plyP 1) g = true := by kernel_rfl
theorem ply_2 (g : Nat -> Value) : plyOk plyC2 (plyP 2) g = true := by kernel_rfl
theorem ply_3 (g : Nat -> Value) : plyOk plyC2 (plyP 3) g = true := by kernel_rfl
theorem ply_4 (g : Nat -> Value) : plyOk plyC2 (plyP 4) g = true := by kernel_rfl
theorem ply_5 (g : Nat -> Value) : plyOk plyC2 (plyP 5) g = true := by kernel_rfl
theorem ply_6 (g : Nat -> Value) : plyOk plyC2 (plyP 6) g = true := by kernel_rfl
theorem ply_7 (g : Nat -> Value) : plyOk plyC2 (plyP 7) g = true := by kernel_rfl
theorem ply_8 (g : Nat -> Value) : plyOk plyC2 (plyP 8) g = true := by kernel_rfl
theorem ply_9 (g : Nat -> Value) : plyOk plyC2 (plyP 9) g = true := by kernel_rfl
theorem ply_10 (g : Nat -> Value) : plyOk plyC2 (plyP 10) g = true := by kernel_rfl
theorem ply_body : Tryz.f3.body = some plyCode := by kernel_rfl
theorem ply_ports (g : Nat -> Value) : ∀ p, p < 11 -> plyOk plyC2 (plyP p) g = true
 | 0, _ => ply_0 g
 | 1, _ => ply_1 g
 | 2, _ => ply_2 g
 | 3, _ => ply_3 g
 | 4, _ => ply_4 g
 | 5, _ => ply_5 g
 | 6, _ => ply_6 g
 | 7, _ => ply_7 g
 | 8, _ => ply_8 g
 | 9, _ => ply_9 g
 | 10, _ => ply_10 g
 | n + 11, h => absurd h (by omega)
theorem folP_of {t : TmN} (h : t ∈ (List.range 11).map plyP) : ∃ p, p < 11 /\ t = plyP p := by
 obtain ⟨q, hq, rfl⟩ := List.mem_map.1 h; exact ⟨q, mRa.1 hq, rfl⟩
theorem ply_rules {ρ : Env} {c : CutN} (hc : c ∈ plyCs) {t : TmN} (ht : t ∈ c.ts) : ∀ r ∈ t.rs, RuleOk ρ r := by
 intro r hr; simp only [plyCs, mCo, List.not_mem_nil, or_false] at hc; rcases hc with rfl | rfl
 ·obtain rfl : t = plyT := by simpa [plyC] using ht
  cases hr
 ·obtain ⟨p, hp, rfl⟩ := folP_of ht
  cases hr
theorem len_ax2 {F : Mng} {ns : List Int} {m cap : Nat} {A : Nat -> Nat -> Int -> Int} {w : World} {hs : List Ph} {b off : Nat} {l : Nat} (ht : TabsIn tabs2 w) (hA : ArrIn w (phKs hs) b off m cap A) (hns : phFits hs ns) (hl : ns.length = phSize hs) (hll : phSize hs = l) : SX.FsOk (envA F (ns ++ [(m : Int), (cap : Int)]) A) (lenU l ++ phFacts hs 0) := by
 subst hll; obtain ⟨_, _, s3, _, _⟩ := arr_start (m := phSize hs) tabs2 tabs2_nd ht hA F (ns ++ [(m : Int), (cap : Int)]) (by rw [<- hl]; simp) (by rw [<- hl]; simp)
 obtain ⟨a1, a2⟩ := ph_append (hs := hs) (ms := [(m : Int), (cap : Int)]) (ss := ([] : List Value)) hl; exact fsOk_app s3 (phFacts_ok (a2.2 hns))
section
variable {A : Nat -> Nat -> Int -> Int} {b off cap m : Nat} {ns : List Int} {w : World}
theorem ply_case (ht : TabsIn tabs2 w) (hA : ArrIn w (phKs plySh) b off m cap A) (hns : phFits plySh ns) (hl : ns.length = phSize plySh) :
  Calls Tryz.prog 3 (phVals plySh ns [.slice (some ⟨b, off, none⟩) m cap]).toArray w fun e w' => e = .returned (.bool true) /\ Below w.heap.size w w' :=
 pays_arr_cutN (rs0 := []) (cuts := plyCs) (p := []) (ax := plyAx) (call := callP) (keep := noKeep 3) (fuel := 80) (C := plyCode) (fn := Tryz.f3) tabs2 tabs2_nd ht mixed nm100 Tryz.func3 ply_body rfl hA hns hl
  (fun _ h => by cases h) (len_ax2 ht hA hns hl rfl) rfl
  (fun ρ' hρ => callP_ok (by rw [hρ.1]; exact law100) ht)
  (fun ρ' hρ c hc t htm r hr => ply_rules hc htm r hr)
  (fun c hc t htm => by
   simp only [plyCs, mCo, List.not_mem_nil, or_false] at hc; rcases hc with rfl | rfl
   ·obtain rfl : t = plyT := by simpa [plyC] using htm
    exact ⟨.leaf, fun g => CT.mk0 (ply_main g)⟩
   ·obtain ⟨p, hp, rfl⟩ := folP_of htm
    exact ⟨.leaf, fun g => CT.mk0 (ply_ports g p hp)⟩)
  (fun r hr => by cases hr) ply_enter
end
theorem ply_treeE : (callP 3 (phArgs tabs2.length (phSize plySh) (some (inpNo tabs2.length (phKs plySh).length (phSize plySh))) plySh 0) (noHp tabs2) (phFacts plySh 0)).all isTrueF = true := by kernel_rfl
theorem ply_treeN : (callP 3 (phArgs tabs2.length (phSize plySh) (some rawNil) plySh 0) (noHp tabs2) (phFacts plySh 0)).all isTrueF = true := by kernel_rfl
theorem ply_pays (ns : List Int) (ss : List Value) (hf : phFits plySh ns) (hl : ns.length = phSize plySh) (w : World) (hss : slFits w plySh ss) (ht : TabsIn tabs2 w) : Calls Tryz.prog 3 (phVals plySh ns ss).toArray w fun e w' => e = .returned (.bool true) /\ Below w.heap.size w w' :=
 pays_slice_call (F := nm100) (call := callP) tabs2 tabs2_nd rfl ht (fun ns A => callP_ok law100 ht) hf hl hss (fun b off len cap A hA hmax => ply_case ht hA hf hl) ply_treeE ply_treeN
end
end Go.Proofs.YtfcpmapfhgibpaaGreatDoor
