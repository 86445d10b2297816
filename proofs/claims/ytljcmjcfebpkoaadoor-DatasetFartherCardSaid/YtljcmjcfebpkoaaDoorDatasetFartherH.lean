/- The law DatasetFarther of layer 34: its templates. -/
import Derived.Test.YtljcmjcfebpkoaaDoorDsF
namespace Go.Proofs.YtljcmjcfebpkoaaDoor
open Go Go.RowKit SX
set_option linter.unusedVariables false
def farSh : List Ph := [.sh dsSh, .sh (.one (.int .u8)), .sl [.int .u64, .int .u64, .int .i64, .int .i64]]
def hopLk : List Lk := [.int .u64, .int .u64, .int .i64, .int .i64]
def vI (i : Nat) : SV := .int .i64 (.var i)
def vU (i : Nat) : SV := .int .u64 (.var i)
def farIx : E := .bin .zadd .i64 (.var 15) (.bin .zmul .i64 (.lit (-1)) (.var 16))
def farTm (x : List SV) (more : Fs) : Tm := ⟨107, [(3, .ptr 2 0), (7, .ptr 3 0), (23, vI 15), (22, .inp 1 4 0 (.var 12) (.var 15) (.var 13)), (24, .int .i64 farIx)],
  [⟨false, .ro (cells34.map ofLeaf)⟩, ⟨false, .arr 0 hopLk (.var 12)⟩, ⟨true, .cells [vI 0, vI 1, vI 2, vI 3, vI 4, vU 5, vI 14, vU 7, vI 8, vU 9, vI 10] 24 0⟩, ⟨true, .cells x 24 0⟩],
  lenFacts 12 ++ more ++ [(.bin .lt .i64 farIx (.lit 0), false), (.bin .lt .i64 (.var 14) (.lit 0), false), (.bin .lt .i64 (.var 14) (.lit 40), true), (.bin .lt .i64 (.var 15) (.lit 0), false), (.bin .lt .i64 (.lit 40) (.var 15), false), (.bin .lt .i64 (.var 16) (.lit 0), false), (.bin .lt .i64 (.lit 40) (.var 16), false)]⟩
def farT0 : Tm := farTm [vI 0, vI 1, vI 2, vI 3, vI 4, vU 5, vI 14, vU 7, vI 8, vU 9, vI 10] [(.bin .eq .i64 farIx (.lit 0), true)]
def farT1 : Tm := farTm [vI 0, vI 1, vI 2, vI 3, vI 4, vU 5, .int .i64 (.bin .zadd .i64 (.var 14) farIx), vU 17, vI 18, vU 19, vI 20] [(.bin .lt .i64 farIx (.lit 1), false)]
def farCut : Cut := ⟨[1, 1, 1, 0, 1, 0], 1, [farT0, farT1], .var 16⟩
noncomputable def farC : Code := (Tryd.f9.body).getD .skip
noncomputable def farCall : Caller := callF Tryd.prog (tabGl tabs34 0) okF sums34 noKeep 80 30
noncomputable def farRound (τ : Tm) (g : Nat → Value) : Bool := roundOk Tryd.prog (tabGl tabs34 0) farCall (noKeep 9) 80 [farCut] (lawEnd Tryd.prog Tryd.f9) farC farCut τ g
end Go.Proofs.YtljcmjcfebpkoaaDoor
