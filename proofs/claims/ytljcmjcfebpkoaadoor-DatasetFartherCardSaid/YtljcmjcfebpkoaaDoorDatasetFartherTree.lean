/- The law DatasetFarther of layer 34: all its ways end with true. -/
import Derived.Test.YtljcmjcfebpkoaaDoorDatasetFartherR0
import Derived.Test.YtljcmjcfebpkoaaDoorDatasetFartherR1
import Derived.Test.YtljcmjcfebpkoaaDoorSxS
namespace Go.Proofs.YtljcmjcfebpkoaaDoor
open Go Go.RowKit SX
set_option linter.unusedVariables false
set_option maxRecDepth 1000000 in
theorem far_treeE : ((callF Tryd.prog (tabGl tabs34 0) okF sums34 noKeep 80 30 9 (phArgs (tabs34.length) (phSize farSh) (some (inpNo (tabs34.length) (phKs farSh).length (phSize farSh))) farSh 0) (noHp tabs34) (phFacts farSh 0)).all isTrueF) = true := by kernel_rfl
set_option maxRecDepth 1000000 in
theorem far_treeN : ((callF Tryd.prog (tabGl tabs34 0) okF sums34 noKeep 80 30 9 (phArgs (tabs34.length) (phSize farSh) (some rawNil) farSh 0) (noHp tabs34) (phFacts farSh 0)).all isTrueF) = true := by kernel_rfl
noncomputable def farEnter (p : Fs) : Bool := noWay (p ++ (lenFacts (phSize farSh) ++ phFacts farSh 0)) || (execP Tryd.prog (tabGl tabs34 0) farCall (noKeep 9) 80 farC (entrySt Tryd.f9 (phArgs (tabs34.length) (phSize farSh) none farSh 0) (arrHp tabs34 (phKs farSh) (phSize farSh)) (p ++ (lenFacts (phSize farSh) ++ phFacts farSh 0)))).all (leafOk (tabGl tabs34 0) [farCut] (lawEnd Tryd.prog Tryd.f9) 2)
set_option maxRecDepth 1000000 in
theorem far_enter0 : farEnter [(E.bin .lt .i64 (.lit 40) (.var 12), true), (E.bin .lt .i64 (.var 13) (.lit 41), true)] = true := by kernel_rfl
set_option maxRecDepth 1000000 in
theorem far_enter1 : farEnter [(E.bin .lt .i64 (.lit 40) (.var 12), true), (E.bin .lt .i64 (.var 13) (.lit 41), false)] = true := by kernel_rfl
set_option maxRecDepth 1000000 in
theorem far_enter2 : farEnter [(E.bin .lt .i64 (.lit 40) (.var 12), false)] = true := by kernel_rfl
def farCt : CT := (.split (E.bin .lt .i64 (.lit 40) (.var 12)) (.split (E.bin .lt .i64 (.var 13) (.lit 41)) .leaf .leaf) .leaf)
theorem far_enter : farCt.all fun p => farEnter p = true := (CT.mk2 (CT.mk2 (CT.mk0 far_enter0) (CT.mk0 far_enter1)) (CT.mk0 far_enter2))
theorem far_rounds : ∀ c ∈ [farCut], ∀ τ ∈ c.ts, ∀ g, roundOk Tryd.prog (tabGl tabs34 0) farCall (noKeep 9) 80 [farCut] (lawEnd Tryd.prog Tryd.f9) farC c τ g = true := fun c hc τ hτ g => by
  obtain rfl : c = farCut := by simpa using hc
  have hτ' : τ ∈ [farT0, farT1] := hτ
  simp only [List.mem_cons, List.not_mem_nil, or_false] at hτ'
  rcases hτ' with rfl | rfl
  · exact far_round0 g
  · exact far_round1 g
set_option maxRecDepth 1000000 in
theorem far_body : Tryd.f9.body = some farC := by kernel_rfl
theorem far_pays (ns : List Int) (ss : List Value) (hf : phFits farSh ns) (hl : ns.length = phSize farSh) (w : World) (hss : slFits w farSh ss) (ht : TabsIn tabs34 w) : Calls Tryd.prog 9 (phVals farSh ns ss).toArray w fun e w' => e = .returned (.bool true) ∧ Below w.heap.size w w' :=
  pays_slice_by (F := names34) (okF := okF) (sums := sums34) (keep := noKeep) (fuel := 80) (n := 30) tabs34 tabs34_nd mixed okF_ok rfl ht (fun ns A => sums34_ok _ w ht)
    (fun ns A β hh hg hfs hargs => by
      obtain ⟨p, hp, he⟩ := CT.some (envA names34 ns A) far_enter
      unfold farEnter at he
      rw [Bool.or_eq_true] at he
      rcases he with he | he
      · exact (noWay_spec (fsOk_app hp hfs) he).elim
      · exact pays_loops (fuel := 80) (n := 30) (cuts := [farCut]) (rk := 2) (keep := noKeep) (C := farC) (fn := Tryd.f9) (call := farCall) rfl mixed okF_ok Tryd.func9 far_body hh hg (fsOk_app hp hfs) (fun ρ' hρ => sums34_ok _ w ht) hargs far_rounds he)
    far_treeE far_treeN ns ss hf hl hss
end Go.Proofs.YtljcmjcfebpkoaaDoor
