/- The law E2eRefuses of layer 38: its templates. -/
import Derived.Test.YtkjbekloacihaaaE4
namespace Go.Proofs.Ytkjbekloacihaaa
open Go Go.RowKit SX
set_option linter.unusedVariables false
def refSh : List Ph := [.sh i1, .sl [.int .i64, .int .i64, .int .i64, .int .i64, .int .i64, .int .i64, .int .i64, .int .u64, .int .i64, .int .i64, .int .i64, .int .i64, .int .i64, .int .u64, .int .i64, .int .i64, .int .i64, .int .i64, .int .i64, .int .i64, .int .i64, .int .u64, .int .i64, .int .i64, .int .u64, .int .i64]]
def opLk : List Lk := [.int .i64, .int .i64, .int .i64, .int .i64, .int .i64, .int .i64, .int .i64, .int .u64, .int .i64, .int .i64, .int .i64, .int .i64, .int .i64, .int .u64, .int .i64, .int .i64, .int .i64, .int .i64, .int .i64, .int .i64, .int .i64, .int .u64, .int .i64, .int .i64, .int .u64, .int .i64]
def refIx : E := .bin .zadd .i64 (.var 1) (.bin .zmul .i64 (.lit (-1)) (.var 3))
def vI (i : Nat) : SV := .int .i64 (.var i)
def refTm (sy asked es p k : E) (more : Fs) : Tm := ⟨174, [(0, vI 0), (1, .inp 0 26 0 (.var 1) (.var 1) (.var 2)), (5, .ptr 1 0), (6, .bool sy), (7, .bool asked), (8, .int .i64 refIx)],
  [⟨false, .arr 0 opLk (.var 1)⟩, ⟨true, .cells [vI 0, .bool (.var 4), .int .u64 (.var 5), vI 6, vI 7, vI 8, vI 9, .bool es, vI 10, vI 11, vI 12, .bool p, vI 13, vI 14, .bool k, vI 15] 60 0⟩],
  lenFacts 1 ++ more ++ [(.bin .lt .i64 (.var 0) (.lit 0), false), (.bin .lt .i64 (.lit 255) (.var 0), false), (.bin .lt .i64 (.lit 50) (.var 1), false), (.bin .lt .i64 refIx (.lit 0), false), (.bin .lt .i64 (.var 3) (.lit 0), false), (.bin .lt .i64 (.lit 50) (.var 3), false)]⟩
def refT0 : Tm := refTm (.lit 0) (.lit 0) (.lit 0) (.lit 0) (.lit 0) []
def refT1 : Tm := refTm (.lit 0) (.lit 1) (.lit 0) (.var 16) (.lit 0) []
def refT2 : Tm := refTm (.lit 1) (.lit 0) (.var 17) (.lit 0) (.lit 0) []
def refT3 : Tm := refTm (.lit 1) (.lit 1) (.var 17) (.var 16) (.lit 0) []
def refT4 : Tm := refTm (.lit 1) (.lit 1) (.lit 1) (.var 16) (.lit 1) [(.bin .lt .i64 (.var 15) (.lit 0), false)]
def refCut : Cut := ⟨[1, 1, 1, 1, 0, 1, 0], 1, [refT0, refT1, refT2, refT3, refT4], .var 3⟩
noncomputable def refC : Code := (Try.f7.body).getD .skip
noncomputable def refCall : Caller := callF Try.prog (tabGl [] 0) okF sumsR noKeep 80 30
noncomputable def refRound (τ : Tm) (g : Nat → Value) : Bool := roundOk Try.prog (tabGl [] 0) refCall (noKeep 7) 80 [refCut] (lawEnd Try.prog Try.f7) refC refCut τ g
end Go.Proofs.Ytkjbekloacihaaa
