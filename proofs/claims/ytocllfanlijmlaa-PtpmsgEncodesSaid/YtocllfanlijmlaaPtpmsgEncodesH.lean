/- The law PtpmsgEncodes of layer 33: the cases of variable 0. -/
import Derived.Test.YtocllfanlijmlaaPm
namespace Go.Proofs.Ytocllfanlijmlaa
open Go Go.RowKit SX
set_option linter.unusedVariables false
def encSh : List Sh := [ptSh]
def encIs (n : Int) : E := .bin .eq .i64 (.var 0) (.lit n)
theorem encIs_ok (ns : List Int) (n : Int) (b : Bool) (h : ns.getD 0 0 = n ↔ b = true) : ∀ p ∈ [(encIs n, b)], (p.1.ev (envOf names33 ns) ≠ 0 ↔ p.2 = true) := fun p hp => by
  obtain rfl : p = (encIs n, b) := by simpa using hp
  exact (ev_eq _ .i64 _ _).trans h
end Go.Proofs.Ytocllfanlijmlaa
