/- The functions of the program that the executor may call. -/
import Derived.Test.YtedeecnibmgobaaMe
import Derived.Test.YtedeecnibmgobaaRows
namespace Go.Proofs.Ytedeecnibmgobaa
open Go SX
def okFs : List Nat := [3, 4, 5, 6, 7, 8, 9, 10, 11, 12, 13, 14, 15, 16, 17, 18, 19, 20, 21, 22, 23, 24, 25, 26, 27]
def okF (f : FuncId) : Bool := okFs.contains f
theorem okF_ok (f : FuncId) (h : okF f = true) : ∀ (xs : Array Value) (w : World), (callFunc f xs).run Try.prog w = .ok (.enter f xs) w := by
  have h : f ∈ okFs := by simpa [okF] using h
  simp only [okFs, List.mem_cons, List.not_mem_nil, or_false] at h
  rcases h with rfl | rfl | rfl | rfl | rfl | rfl | rfl | rfl | rfl | rfl | rfl | rfl | rfl | rfl | rfl | rfl | rfl | rfl | rfl | rfl | rfl | rfl | rfl | rfl | rfl
  · exact Try.call3
  · exact Try.call4
  · exact Try.call5
  · exact Try.call6
  · exact Try.call7
  · exact Try.call8
  · exact Try.call9
  · exact Try.call10
  · exact Try.call11
  · exact Try.call12
  · exact Try.call13
  · exact Try.call14
  · exact Try.call15
  · exact Try.call16
  · exact Try.call17
  · exact Try.call18
  · exact Try.call19
  · exact Try.call20
  · exact Try.call21
  · exact Try.call22
  · exact Try.call23
  · exact Try.call24
  · exact Try.call25
  · exact Try.call26
  · exact Try.call27
theorem mixed : Try.prog.follows .mixedOrders = true := by kernel_rfl
end Go.Proofs.Ytedeecnibmgobaa
