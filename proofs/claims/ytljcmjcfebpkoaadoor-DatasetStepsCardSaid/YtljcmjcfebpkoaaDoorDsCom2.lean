/- A quality that comes in. -/
import Derived.Test.YtljcmjcfebpkoaaDoorDsCom
namespace Go.Proofs.YtljcmjcfebpkoaaDoor
open Go Go.ChangeShapes Go.WideShapes Go.ChangeAt Go.RowKit
theorem quFlat : flatTs Tryd.prog 3 38 = some [3, 3, 3, 3, 3] := by kernel_rfl
theorem open_quality {H : Type} {enc : TypeId × Value → H} {W : World} {base : Nat} {v : Value} {d : DataW H} {p : List MemPlace}
    (hv : Value.okWide Tryd.prog W .any base 38 v) (h : DataW.Trod enc Tryd.prog W 0 (fun _ => true) true 38 v d p) :
    ∃ q0 q1 q2 q3 q4 : Int, v = .agg #[.int .i64 q0, .int .i64 q1, .int .i64 q2, .int .i64 q3, .int .i64 q4] := by
  obtain ⟨cs, rfl, hall⟩ := open_flat Tryd.underlying38 quFlat hv h
  match cs, hall with
  | [_, _, _, _, _], .cons h0 (.cons h1 (.cons h2 (.cons h3 (.cons h4 .nil)))) =>
    obtain ⟨q0, rfl, _⟩ := h0.int Tryd.underlying3
    obtain ⟨q1, rfl, _⟩ := h1.int Tryd.underlying3
    obtain ⟨q2, rfl, _⟩ := h2.int Tryd.underlying3
    obtain ⟨q3, rfl, _⟩ := h3.int Tryd.underlying3
    obtain ⟨q4, rfl, _⟩ := h4.int Tryd.underlying3
    exact ⟨q0, q1, q2, q3, q4, rfl⟩
end Go.Proofs.YtljcmjcfebpkoaaDoor
