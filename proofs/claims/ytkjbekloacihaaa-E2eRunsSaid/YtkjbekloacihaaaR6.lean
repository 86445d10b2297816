/- Layer 38: all names that E2eRuns wants. -/
import Derived.Test.YtkjbekloacihaaaR5
namespace Go.Proofs.Ytkjbekloacihaaa
open Go Go.RowKit SX
set_option linter.unusedVariables false
def nanA : Sm := ⟨47, 5, [i1], [i1]⟩
def nanB : Sm := ⟨33, 5, [i1], [i1]⟩
def nanF (_ : Nat) (ns : List Int) : Int := ns.getD 0 0 / 65536
noncomputable def namesN : Nat → Nat → List Int → Int := fun f => if f = 5 then nanF else namesR f
theorem but5 : But 5 namesN namesR := fun f hf => if_neg hf
theorem tdiv_c (x : Int) : x.tdiv 65536 = if 0 ≤ x then x / 65536 else -((-x) / 65536) := by
  split
  · rename_i h; exact Int.tdiv_eq_ediv_of_nonneg h
  · rename_i h
    have h1 := Int.neg_tdiv (-x) 65536
    rw [Int.neg_neg] at h1
    rw [h1, Int.tdiv_eq_ediv_of_nonneg (a := -x) (by omega)]
theorem tmod_c (x : Int) : x.tmod 65536 = if 0 ≤ x then x % 65536 else -((-x) % 65536) := by
  split
  · rename_i h; exact Int.tmod_eq_emod_of_nonneg h
  · rename_i h
    have h1 := Int.neg_tmod (-x) 65536
    rw [Int.neg_neg] at h1
    rw [h1, Int.tmod_eq_emod_of_nonneg (a := -x) (by omega)]
def nq : E := .bin .quo .i64 (.var 0) (.lit 65536)
def nr : E := .bin .rem .i64 (.var 0) (.lit 65536)
def ng : E := .bin .zmul .i64 (.lit (-1)) (.var 0)
def nbq : E := .bin .quo .u64 ng (.lit 65536)
def nOk (e : E) : T SV := .ok (.int .i64 e)
def nanTreeA : T SV := .br (.bin .eq .i64 (.var 0) (.lit (-9223372036854775808))) (nOk nq) (.br (.bin .eq .i64 nr (.lit 0)) (nOk nq) (.br (.bin .lt .i64 nr (.lit 0)) (nOk (.bin .sub .i64 nq (.lit 1))) (nOk nq)))
def nb1 : E := .bin .sub .i64 (.bin .sub .i64 (.lit 0) (.bin .conv .i64 (.bin .sub .u64 (.bin .add .u64 nbq (.lit 1)) (.lit 1)) (.lit 0))) (.lit 1)
def nb2 : E := .bin .sub .i64 (.bin .sub .i64 (.lit 0) (.bin .conv .i64 (.bin .sub .u64 nbq (.lit 1)) (.lit 0))) (.lit 1)
def nb3 : E := .bin .conv .i64 (.bin .quo .u64 (.var 0) (.lit 65536)) (.lit 0)
def nanTreeB : T SV := .br (.bin .lt .i64 (.var 0) (.lit 0)) (.br (.bin .lt .u64 (.lit 0) (.bin .rem .u64 ng (.lit 65536))) (nOk nb1) (.br (.bin .eq .u64 nbq (.lit 0)) (nOk (.lit 0)) (nOk nb2))) (nOk nb3)
set_option maxRecDepth 100000 in
theorem nanA_tree : retI (callF Try.prog [] okF sumsD noKeep 80 30 47 (varShs [i1] 0) .nil (varFacts [i1] 0)) = nanTreeA := by kernel_rfl
set_option maxRecDepth 100000 in
theorem nanB_tree : retI (callF Try.prog [] okF sumsD noKeep 80 30 33 (varShs [i1] 0) .nil (varFacts [i1] 0)) = nanTreeB := by kernel_rfl
section
variable {F : Nat → Nat → List Int → Int} {ns : List Int}
theorem nan_leaf {e : E} (h : e.ev (envOf F ns) = ns.getD 0 0 / 65536) : (nOk e).holds (envOf F ns) fun x => x.flat = true ∧ x.ev (envOf F ns) β0 = packV (shVals [i1] (fnVals nanF ns (shSize [i1]) 0)) := by
  refine ⟨rfl, ?_⟩
  show Value.int .i64 (e.ev _) = Value.int .i64 (ns.getD 0 0 / 65536)
  rw [h]
theorem nan_hyp (hns : shFits [i1] ns) : -9223372036854775808 ≤ ns.getD 0 0 ∧ ns.getD 0 0 ≤ 9223372036854775807 := by
  have e0 := headD_drop ns 0
  simp only [List.drop_zero] at e0
  rw [← e0]; exact wf64' hns.1
theorem nan_fits (hns : shFits [i1] ns) : shFits [i1] (fnVals nanF ns (shSize [i1]) 0) := by
  have := nan_hyp hns
  refine ⟨?_, trivial⟩
  show (Lit.int .i64 (ns.getD 0 0 / 65536)).wf = true
  exact wf64 (by omega)
theorem nanA_holds (hns : shFits [i1] ns) : nanTreeA.holds (envOf F ns) fun x => x.flat = true ∧ x.ev (envOf F ns) β0 = packV (shVals [i1] (fnVals nanF ns (shSize [i1]) 0)) := by
  have hr := nan_hyp hns
  have hl := @nan_leaf F ns
  have v0 : (E.var 0).ev (envOf F ns) = ns.getD 0 0 := rfl
  have l0 : ∀ n : Int, (E.lit n).ev (envOf F ns) = n := fun _ => rfl
  have hq : nq.ev (envOf F ns) = IntKind.i64.wrap ((ns.getD 0 0).tdiv 65536) := rfl
  have hm : nr.ev (envOf F ns) = (ns.getD 0 0).tmod 65536 := rfl
  have hs : (E.bin .sub .i64 nq (.lit 1)).ev (envOf F ns) = IntKind.i64.wrap (nq.ev (envOf F ns) - 1) := rfl
  rw [tdiv_c, i64_wrap] at hq
  rw [tmod_c] at hm
  rw [i64_wrap] at hs
  unfold nanTreeA
  simp only [br_lt, br_eq, v0, l0]
  generalize ns.getD 0 0 = x at *
  refine ⟨fun c1 => hl ?_, fun c1 => ⟨fun c2 => hl ?_, fun c2 => ⟨fun c3 => hl ?_, fun c3 => hl ?_⟩⟩⟩ <;> split at hq <;> split at hm <;> omega
theorem nanB_holds (hns : shFits [i1] ns) : nanTreeB.holds (envOf F ns) fun x => x.flat = true ∧ x.ev (envOf F ns) β0 = packV (shVals [i1] (fnVals nanF ns (shSize [i1]) 0)) := by
  have hr := nan_hyp hns
  have hl := @nan_leaf F ns
  have v0 : (E.var 0).ev (envOf F ns) = ns.getD 0 0 := rfl
  have l0 : ∀ n : Int, (E.lit n).ev (envOf F ns) = n := fun _ => rfl
  have hg : ng.ev (envOf F ns) = -1 * ns.getD 0 0 := rfl
  have hq : nbq.ev (envOf F ns) = IntKind.u64.wrap ((ng.ev (envOf F ns)).tdiv 65536) := rfl
  have hm : (E.bin .rem .u64 ng (.lit 65536)).ev (envOf F ns) = (ng.ev (envOf F ns)).tmod 65536 := rfl
  have h1 : nb1.ev (envOf F ns) = IntKind.i64.wrap (IntKind.i64.wrap (0 - IntKind.i64.wrap (IntKind.u64.wrap (IntKind.u64.wrap (nbq.ev (envOf F ns) + 1) - 1))) - 1) := rfl
  have h2 : nb2.ev (envOf F ns) = IntKind.i64.wrap (IntKind.i64.wrap (0 - IntKind.i64.wrap (IntKind.u64.wrap (nbq.ev (envOf F ns) - 1))) - 1) := rfl
  have h3 : nb3.ev (envOf F ns) = IntKind.i64.wrap (IntKind.u64.wrap ((ns.getD 0 0).tdiv 65536)) := rfl
  rw [tdiv_c, w64] at hq
  rw [tmod_c] at hm
  rw [tdiv_c] at h3
  unfold nanTreeB
  simp only [br_lt, br_eq, v0, l0]
  generalize ns.getD 0 0 = x at *
  refine ⟨fun c1 => ?_, fun c1 => hl ?_⟩
  · have hge : 0 ≤ ng.ev (envOf F ns) := by omega
    rw [if_pos hge, hg] at hq hm
    have hq' : nbq.ev (envOf F ns) = (-1 * x) / 65536 := by omega
    refine ⟨fun c2 => hl ?_, fun c2 => ⟨fun c3 => hl ?_, fun c3 => hl ?_⟩⟩
    · have b0 : 0 ≤ nbq.ev (envOf F ns) ∧ nbq.ev (envOf F ns) ≤ 140737488355328 := by omega
      rw [h1]
      generalize nbq.ev (envOf F ns) = q at *
      have t1 : IntKind.u64.wrap (IntKind.u64.wrap (q + 1) - 1) = q := by rw [w64, w64]; omega
      rw [t1, i64w (x := q) (by omega), i64w (x := 0 - q) (by omega), i64w (x := 0 - q - 1) (by omega)]; omega
    · rw [l0]; omega
    · have b0 : 0 ≤ nbq.ev (envOf F ns) ∧ nbq.ev (envOf F ns) ≤ 140737488355328 := by omega
      rw [h2]
      generalize nbq.ev (envOf F ns) = q at *
      have t1 : IntKind.u64.wrap (q - 1) = q - 1 := by rw [w64]; omega
      rw [t1, i64w (x := q - 1) (by omega), i64w (x := 0 - (q - 1)) (by omega), i64w (x := 0 - (q - 1) - 1) (by omega)]; omega
  · rw [if_pos (by omega), w64] at h3
    rw [h3, i64w (by omega)]; omega
end
theorem nanA_ok (v : List Int) (w : World) : SmOk Try.prog (envOf namesN v) w (fun _ => False) nanA :=
  smOk_at (sums := sumsD) (okF := okF) (keep := noKeep) (fuel := 80) (n := 30) mixed okF_ok (fun _ w' _ => sumsD_ok _ w') v fun ns hns => ⟨nan_fits hns, by
    show (retI (callF Try.prog [] okF sumsD noKeep 80 30 47 (varShs [i1] 0) .nil (varFacts [i1] 0))).holds _ _
    rw [nanA_tree]; exact nanA_holds hns⟩
theorem nanB_ok (v : List Int) (w : World) : SmOk Try.prog (envOf namesN v) w (fun _ => False) nanB :=
  smOk_at (sums := sumsD) (okF := okF) (keep := noKeep) (fuel := 80) (n := 30) mixed okF_ok (fun _ w' _ => sumsD_ok _ w') v fun ns hns => ⟨nan_fits hns, by
    show (retI (callF Try.prog [] okF sumsD noKeep 80 30 33 (varShs [i1] 0) .nil (varFacts [i1] 0))).holds _ _
    rw [nanB_tree]; exact nanB_holds hns⟩
def sumsE : Sums := sumsA 12 [insA3, insB3, kA, kB, adA4, adB4, nanA, nanB]
theorem sumsE_ok (ρ : Env) (h : ρ.fn = namesN) (w : World) : SumsOk Try.prog ρ w (fun _ => False) sumsE := by
  have hR : ∀ f, f ≠ 5 → ρ.fn f = namesR f := fun f hf => by rw [h]; exact but5 f hf
  refine sumsA_ok (fun w' hk => awake_sx w') fun s hs => ?_
  simp only [List.mem_cons, List.not_mem_nil, or_false] at hs
  rcases hs with rfl | rfl | rfl | rfl | rfl | rfl | rfl | rfl
  · exact SmOk.congr (ρ := envOf namesR []) (hR 3 (by decide)) (insA3_ok [] w)
  · exact SmOk.congr (ρ := envOf namesR []) (hR 3 (by decide)) (insB3_ok [] w)
  · exact SmOk.congr (ρ := envOf namesK []) ((hR 2 (by decide)).trans (nR (by decide) (by decide))) (kA_ok (envOf namesK []) rfl w)
  · exact SmOk.congr (ρ := envOf namesK []) ((hR 2 (by decide)).trans (nR (by decide) (by decide))) (kB_ok (envOf namesK []) rfl w)
  · exact SmOk.congr (ρ := envOf namesR []) (hR 4 (by decide)) (adA4_ok [] w)
  · exact SmOk.congr (ρ := envOf namesR []) (hR 4 (by decide)) (adB4_ok [] w)
  · exact SmOk.congr (ρ := envOf namesN []) (by rw [h]; rfl) (nanA_ok [] w)
  · exact SmOk.congr (ρ := envOf namesN []) (by rw [h]; rfl) (nanB_ok [] w)
end Go.Proofs.Ytkjbekloacihaaa
