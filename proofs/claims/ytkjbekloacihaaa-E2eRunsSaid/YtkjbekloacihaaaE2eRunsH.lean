/- The law E2eRuns of layer 38: its templates. -/
import Derived.Test.YtkjbekloacihaaaR6
namespace Go.Proofs.Ytkjbekloacihaaa
open Go Go.RowKit SX
set_option linter.unusedVariables false
def runSh : List Ph := [.sh i1, .sl [.int .i64, .int .i64, .int .i64, .int .i64, .int .i64, .int .i64, .int .i64, .int .u64, .int .i64, .int .i64, .int .i64, .int .i64, .int .i64, .int .u64, .int .i64, .int .i64, .int .i64, .int .i64, .int .i64, .int .i64, .int .i64, .int .u64, .int .i64, .int .i64, .int .u64, .int .i64]]
def opLk : List Lk := [.int .i64, .int .i64, .int .i64, .int .i64, .int .i64, .int .i64, .int .i64, .int .u64, .int .i64, .int .i64, .int .i64, .int .i64, .int .i64, .int .u64, .int .i64, .int .i64, .int .i64, .int .i64, .int .i64, .int .i64, .int .i64, .int .u64, .int .i64, .int .i64, .int .u64, .int .i64]
def runIx : E := .bin .zadd .i64 (.var 1) (.bin .zmul .i64 (.lit (-1)) (.var 3))
def vI (i : Nat) : SV := .int .i64 (.var i)
def vU (i : Nat) : SV := .int .u64 (.var i)
def runTm (waits : E) (clk prt seq corr t2 : Nat) : Tm := ⟨121, [(0, vI 0), (1, .inp 0 26 0 (.var 1) (.var 1) (.var 2)), (5, .ptr 1 0), (6, .ptr 2 0), (7, .int .i64 runIx)],
  [⟨false, .arr 0 opLk (.var 1)⟩, ⟨true, .cells [vI 0, .bool waits, vU 4, vI 5, vI 6, vI 7, vI 8, .bool (.var 9), vI 10, vI 11, vI 12, .bool (.var 13), vI 14, vI 15, .bool (.var 16), vI 17] 60 0⟩,
   ⟨true, .cells [vI 0, .bool waits, vI 18, vI 19, vI 20, vI corr, vU clk, vI prt, vI seq, vI 25, vI 26, vI 27, vU 28, vI 29, vI 30, vI 31, vI 32, vI 33, vI 34, vI 35, vU 36, vI 37, vI 38, vI t2, .bool (.var 9), .int .i64 (.bin .sub .i64 (.bin .sub .i64 (.var 11) (.var 10)) (.var 12)), .bool (.var 13), vI 14, vI 15, .bool (.var 16), vI 17] 62 0⟩],
  lenFacts 1 ++ [(.bin .lt .i64 (.var 0) (.lit 0), false), (.bin .lt .i64 (.lit 255) (.var 0), false), (.bin .lt .i64 (.lit 50) (.var 1), false), (.bin .lt .i64 runIx (.lit 0), false), (.bin .lt .i64 (.var 3) (.lit 0), false), (.bin .lt .i64 (.lit 50) (.var 3), false)]⟩
def runT0 : Tm := runTm (.lit 0) 22 23 24 21 39
def runT1 : Tm := runTm (.lit 1) 4 5 6 8 7
def runCut : Cut := ⟨[1, 1, 1, 1, 0, 1, 0], 1, [runT0, runT1], .var 3⟩
noncomputable def runC : Code := (Try.f3.body).getD .skip
noncomputable def runCall : Caller := callF Try.prog (tabGl [] 0) okF sumsE noKeep 80 30
noncomputable def runRound (p : Fs) (τ : Tm) (g : Nat → Value) : Bool := roundOk Try.prog (tabGl [] 0) runCall (noKeep 3) 80 [runCut] (lawEnd Try.prog Try.f3) runC p runCut τ g
end Go.Proofs.Ytkjbekloacihaaa
