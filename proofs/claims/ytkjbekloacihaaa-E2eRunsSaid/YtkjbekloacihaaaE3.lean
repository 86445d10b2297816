/- Layer 38: e2e.instant has a name. -/
import Derived.Test.YtkjbekloacihaaaE2
namespace Go.Proofs.Ytkjbekloacihaaa
open Go Go.RowKit SX
set_option linter.unusedVariables false
def stSh : Sh := .agg [.int .i64, .int .i64]
def insRs : List Sh := [i1, .one .bool]
def insA : Sm := ⟨37, 1, [stSh], insRs⟩
def sumsN : Sums := fun _ _ => none
noncomputable def insT : T Out := callF Try.prog [] okF sumsN noKeep 80 30 37 (varShs [stSh] 0) .nil (varFacts [stSh] 0)
noncomputable def namesI : Nat → Nat → List Int → Int := fun f => if f = 1 then autoF names38 insRs insT else names38 f
theorem but1 : But 1 namesI names38 := fun f hf => if_neg hf
set_option maxRecDepth 1000000 in
theorem ins_good : insT.good 1 insRs = true := by kernel_rfl
theorem insA_ok (ρ : Env) (h : ρ.fn = namesI) (w : World) : SmOk Try.prog ρ w (fun _ => False) insA :=
  smAuto (okF := okF) (sums := sumsN) (keep := noKeep) (fuel := 80) (n := 30) (G := names38) mixed okF_ok but1 (fun ns w' _ => sums_none _ _ _ _) h (fun ns j => congrFun (congrFun (if_pos rfl : namesI 1 = autoF names38 insRs insT) j) ns) ins_good
def sumsI : Sums := sumsA 12 [insA]
theorem sumsI_ok (ρ : Env) (h : ρ.fn = namesI) (w : World) : SumsOk Try.prog ρ w (fun _ => False) sumsI :=
  sumsA_ok (fun w' hk => awake_sx w') fun s hs => by
    obtain rfl : s = insA := by simpa using hs
    exact insA_ok ρ h w
end Go.Proofs.Ytkjbekloacihaaa
