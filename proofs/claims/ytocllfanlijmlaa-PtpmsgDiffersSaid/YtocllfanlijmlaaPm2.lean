/- Layer 33: the program's and the reference's Check have one name. -/
import Derived.Test.YtocllfanlijmlaaPm
namespace Go.Proofs.Ytocllfanlijmlaa
open Go Go.RowKit SX
set_option linter.unusedVariables false
def kA : Sm := ⟨9, 2, [ptSh], [i1]⟩
def kB : Sm := ⟨10, 2, [ptSh], [i1]⟩
noncomputable def chkT : T Out := callF Try.prog [] okF sums33 noKeep 80 30 9 (varShs [ptSh] 0) .nil (varFacts [ptSh] 0)
noncomputable def namesB : Nat → Nat → List Int → Int := fun f => if f = 2 then autoF names33 [i1] chkT else names33 f
theorem but2 : But 2 namesB names33 := fun f hf => if_neg hf
set_option maxRecDepth 1000000 in
theorem chk_good : chkT.good 2 [i1] = true := by kernel_rfl
set_option maxRecDepth 1000000 in
theorem chk_both : ((both2 Try.prog okF sums33 noKeep 80 30 9 10 [ptSh]).all fun p => sameO [i1] p.1 p.2) = true := by kernel_rfl
theorem sums33_okB (ρ : Env) (h : ρ.fn = namesB) (w : World) : SumsOk Try.prog ρ w (fun _ => False) sums33 :=
  sumsA_ok (fun w' hk => awake_sx w') fun s hs => by
    simp only [List.mem_cons, List.not_mem_nil, or_false] at hs
    rcases hs with rfl | rfl
    · exact (sizeA_ok [] w).congr (by rw [h]; exact but2 1 (by decide))
    · exact (sizeB_ok [] w).congr (by rw [h]; exact but2 1 (by decide))
theorem kA_ok (ρ : Env) (h : ρ.fn = namesB) (w : World) : SmOk Try.prog ρ w (fun _ => False) kA :=
  smAuto (okF := okF) (sums := sums33) (keep := noKeep) (fuel := 80) (n := 30) (G := names33) mixed okF_ok but2 (fun ns w' _ => sums33_okB _ rfl w') h (fun ns j => congrFun (congrFun (if_pos rfl : namesB 2 = autoF names33 [i1] chkT) j) ns) chk_good
theorem kB_ok (ρ : Env) (h : ρ.fn = namesB) (w : World) : SmOk Try.prog ρ w (fun _ => False) kB :=
  smAuto2 (s := kA) (okF := okF) (sums := sums33) (keep := noKeep) (fuel := 80) (n := 30) (G := names33) mixed okF_ok but2 (fun ns w' _ => sums33_okB _ rfl w') h (fun ns j => congrFun (congrFun (if_pos rfl : namesB 2 = autoF names33 [i1] chkT) j) ns) chk_good chk_both
def sumsC : Sums := sumsA 13 [kA, kB]
theorem sumsC_ok (ρ : Env) (h : ρ.fn = namesB) (w : World) : SumsOk Try.prog ρ w (fun _ => False) sumsC :=
  sumsA_ok (fun w' hk => awake_sx w') fun s hs => by
    simp only [List.mem_cons, List.not_mem_nil, or_false] at hs
    rcases hs with rfl | rfl
    · exact kA_ok ρ h w
    · exact kB_ok ρ h w
end Go.Proofs.Ytocllfanlijmlaa
