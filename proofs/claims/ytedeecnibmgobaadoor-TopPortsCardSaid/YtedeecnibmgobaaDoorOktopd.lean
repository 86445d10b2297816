/- The functions of the program that the executor may call. -/
import Derived.Test.YtedeecnibmgobaaDoorMe
import Derived.Test.YtedeecnibmgobaaDoorRows
namespace Go.Proofs.YtedeecnibmgobaaDoor
open Go SX
def okFs : List Nat := [3, 4, 5, 6, 7, 8, 9, 10, 11, 12, 13, 14, 15, 16, 17, 18, 19]
def okF (f : FuncId) : Bool := okFs.contains f
theorem okF_ok (f : FuncId) (h : okF f = true) : ∀ (xs : Array Value) (w : World), (callFunc f xs).run Tryd.prog w = .ok (.enter f xs) w := by
  have h : f ∈ okFs := by simpa [okF] using h
  simp only [okFs, List.mem_cons, List.not_mem_nil, or_false] at h
  rcases h with rfl | rfl | rfl | rfl | rfl | rfl | rfl | rfl | rfl | rfl | rfl | rfl | rfl | rfl | rfl | rfl | rfl
  · exact Tryd.call3
  · exact Tryd.call4
  · exact Tryd.call5
  · exact Tryd.call6
  · exact Tryd.call7
  · exact Tryd.call8
  · exact Tryd.call9
  · exact Tryd.call10
  · exact Tryd.call11
  · exact Tryd.call12
  · exact Tryd.call13
  · exact Tryd.call14
  · exact Tryd.call15
  · exact Tryd.call16
  · exact Tryd.call17
  · exact Tryd.call18
  · exact Tryd.call19
theorem mixed : Tryd.prog.follows .mixedOrders = true := by kernel_rfl
end Go.Proofs.YtedeecnibmgobaaDoor
