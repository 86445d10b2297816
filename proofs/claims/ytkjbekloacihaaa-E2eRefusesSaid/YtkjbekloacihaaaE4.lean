/- Layer 38: instant, Check and AddCorr have names. -/
import Derived.Test.YtkjbekloacihaaaE3
import Derived.Test.YtkjbekloacihaaaSxL
namespace Go.Proofs.Ytkjbekloacihaaa
open Go Go.RowKit SX
set_option linter.unusedVariables false
def ptLk : List Lk := [.int .i64, .int .i64, .int .i64, .int .i64, .int .u64, .int .i64, .int .i64, .int .i64, .int .i64, .int .i64, .int .u64, .int .i64, .int .i64, .int .i64, .int .i64, .int .i64, .int .i64, .int .i64, .int .u64, .int .i64, .int .i64]
def ptSh : Sh := .agg ptLk
def kA : Sm := ⟨53, 2, [ptSh], [i1]⟩
def adA : Sm := ⟨26, 3, [i1, i1], insRs⟩
noncomputable def chkT : T Out := callF Try.prog [] okF sumsN noKeep 80 30 53 (varShs [ptSh] 0) .nil (varFacts [ptSh] 0)
noncomputable def addT : T Out := callF Try.prog [] okF sumsN noKeep 80 30 26 (varShs [i1, i1] 0) .nil (varFacts [i1, i1] 0)
noncomputable def namesK : Nat → Nat → List Int → Int := fun f => if f = 2 then autoF namesI [i1] chkT else namesI f
noncomputable def namesA : Nat → Nat → List Int → Int := fun f => if f = 3 then autoF namesK insRs addT else namesK f
theorem but2 : But 2 namesK namesI := fun f hf => if_neg hf
theorem but3 : But 3 namesA namesK := fun f hf => if_neg hf
set_option maxRecDepth 1000000 in
theorem chk_good : chkT.good 2 [i1] = true := by kernel_rfl
set_option maxRecDepth 1000000 in
theorem add_good : addT.good 3 insRs = true := by kernel_rfl
theorem kA_ok (ρ : Env) (h : ρ.fn = namesK) (w : World) : SmOk Try.prog ρ w (fun _ => False) kA :=
  smAuto (okF := okF) (sums := sumsN) (keep := noKeep) (fuel := 80) (n := 30) (G := namesI) mixed okF_ok but2 (fun ns w' _ => sums_none _ _ _ _) h (fun ns j => congrFun (congrFun (if_pos rfl : namesK 2 = autoF namesI [i1] chkT) j) ns) chk_good
theorem adA_ok (ρ : Env) (h : ρ.fn = namesA) (w : World) : SmOk Try.prog ρ w (fun _ => False) adA :=
  smAuto (okF := okF) (sums := sumsN) (keep := noKeep) (fuel := 80) (n := 30) (G := namesK) mixed okF_ok but3 (fun ns w' _ => sums_none _ _ _ _) h (fun ns j => congrFun (congrFun (if_pos rfl : namesA 3 = autoF namesK insRs addT) j) ns) add_good
def sumsR : Sums := sumsA 12 [insA, kA, adA]
theorem sumsR_ok (ρ : Env) (h : ρ.fn = namesA) (w : World) : SumsOk Try.prog ρ w (fun _ => False) sumsR := by
  have h1 : namesA 1 = namesI 1 := (but3 1 (by decide)).trans (but2 1 (by decide))
  have h2 : namesA 2 = namesK 2 := but3 2 (by decide)
  refine sumsA_ok (fun w' hk => awake_sx w') fun s hs => ?_
  simp only [List.mem_cons, List.not_mem_nil, or_false] at hs
  rcases hs with rfl | rfl | rfl
  · exact (insA_ok (envOf namesI []) rfl w).congr (by rw [h]; exact h1)
  · exact (kA_ok (envOf namesK []) rfl w).congr (by rw [h]; exact h2)
  · exact adA_ok ρ h w
end Go.Proofs.Ytkjbekloacihaaa
