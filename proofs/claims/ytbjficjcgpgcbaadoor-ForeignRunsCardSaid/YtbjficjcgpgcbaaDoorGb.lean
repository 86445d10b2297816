/- Records of the reference of package foreign: drop, as a contract. -/
import Derived.Test.YtbjficjcgpgcbaaDoorGa
import Derived.Test.YtbjficjcgpgcbaaDoorMi
namespace Go.Proofs.YtbjficjcgpgcbaaDoor
open Go Go.RowKit SX Frm Frn
set_option linter.unusedVariables false

def dropHp : List Box := ⟨true, .cells (hdB (.var 11) 1 5) 57 0⟩ :: boxB 5 1 :: ((List.range 5).map fun i => boxB 5 (2 + i)) ++ [⟨true, .cells (dsS .var) 32 0⟩] ++ (List.range 5).flatMap fun i => [⟨true, .cells (msgCells (lastB i)) 65 0⟩, ⟨true, .cells (dsS (lastB i)) 32 0⟩]
def dropOut (j : Nat) : List Box := ⟨true, .cells (hdB (.var 11) 18 4) 57 0⟩ :: ⟨false, .gone⟩ :: ((List.range 5).map fun i => boxB 5 (2 + i)) ++ [⟨true, .cells (dsS .var) 32 0⟩] ++ ((List.range 10).map fun _ => ⟨false, .gone⟩) ++ [⟨true, .cells (((List.range 5).eraseIdx j).map rowB) 67 2⟩]
def dropC (bs : List Bool) : Memo := ⟨27, [.ptr 0 0], dropHp, (List.range 5).flatMap lenFB ++ chainL 1 0 bs, .tuple [], dropOut (endL 1 0 bs)⟩
noncomputable def dropBB (bs : List Bool) : Bool := (runB (spMemo (dropC bs)) 14 (argsH .var) 5 (goodF .var ++ (notFB .var 5 ++ chainL 1 0 bs))).all (endB 5 (.var 11) (fun _ => ((List.range 5).eraseIdx (endL 1 0 bs)).map .old ++ [.new [.var]]) (fun _ => .int .i64 (.lit 0)))
noncomputable def dropOk (bs : List Bool) : Bool := (dropC bs).ok Tryd.prog [] okF noSpec noKeep 80 30 && dropBB bs
end Go.Proofs.YtbjficjcgpgcbaaDoor
