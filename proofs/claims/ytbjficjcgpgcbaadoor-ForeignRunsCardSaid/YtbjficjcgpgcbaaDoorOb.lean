/- Objects in memory: what they are. A seat without objects has none. -/
import Derived.WalkKit
import Derived.Test.YtbjficjcgpgcbaaDoorFrn
namespace Go.Proofs.YtbjficjcgpgcbaaDoor.SX
open Go
def Ob (q : Nat) (vs : List Int) (b : Nat) (φ : Nat → Prop) (w : World) : Prop := Frn.FrnOb q vs b φ w
theorem Ob_lt {q : Nat} {vs : List Int} {b : Nat} {φ : Nat → Prop} {w : World} (h : Ob q vs b φ w) : ∀ i, φ i → i < w.heap.size := Frn.FrnOb_lt h
theorem Ob_keep {q : Nat} {vs : List Int} {b : Nat} {φ : Nat → Prop} {w w' : World} (h : Ob q vs b φ w) (hk : ∀ i, φ i → w'.heap[i]? = w.heap[i]?) : Ob q vs b φ w' := Frn.FrnOb_keep h hk
end Go.Proofs.YtbjficjcgpgcbaaDoor.SX
