/- Layer 36: a law about a clock's own data set and its ports, by the number of the ports. -/
import Derived.Test.YthbfjnmdjehljaaDoorDcD
namespace Go.Proofs.YthbfjnmdjehljaaDoor
open Go Go.RowKit SX
set_option linter.unusedVariables false

def isLen (l m : Nat) : Fs := [(eq0 (.var l) (litN m), true)]
/-- The ways of a law, what is known besides (p). -/
noncomputable def lawT (f : FuncId) (hs : List Ph) (p : Fs) : T Out := callG Tryd.prog (tabGl tabs36 0) okF (spD (phSize hs)) noKeep 80 30 f (phArgs tabs36.length (phSize hs) none hs 0) (arrHp tabs36 (phKs hs) (phSize hs)) (p ++ (lenU (phSize hs) ++ phFacts hs 0))
noncomputable def lawE (f : FuncId) (hs : List Ph) : T Out := callF Tryd.prog (tabGl tabs36 0) okF sumsL noKeep 80 30 f (phArgs tabs36.length (phSize hs) (some (inpNo tabs36.length (phKs hs).length (phSize hs))) hs 0) (noHp tabs36) (phFacts hs 0)
noncomputable def lawN (f : FuncId) (hs : List Ph) : T Out := callF Tryd.prog (tabGl tabs36 0) okF sumsL noKeep 80 30 f (phArgs tabs36.length (phSize hs) (some rawNil) hs 0) (noHp tabs36) (phFacts hs 0)
section
variable {A : Nat → Nat → Int → Int} {len cap : Nat} {ns : List Int}
theorem own_any (h : 11 ≤ ns.length) (l : List Int) (F : Nat → Nat → List Int → Int) : ownOf (envA F (ns ++ l) A) = dsOf ns := by
  match ns, h with
  | _ :: _ :: _ :: _ :: _ :: _ :: _ :: _ :: _ :: _ :: _ :: _, _ => rfl
/-- What the names stand for in a law. -/
theorem law_env (h : 11 ≤ ns.length) {l : Nat} (hl : ns.length = l) : (envA (namesD (dsOf ns) A len) (ns ++ [(len : Int), (cap : Int)]) A).fn = namesD (ownOf (envA (namesD (dsOf ns) A len) (ns ++ [(len : Int), (cap : Int)]) A)) (envA (namesD (dsOf ns) A len) (ns ++ [(len : Int), (cap : Int)]) A).arr ((envA (namesD (dsOf ns) A len) (ns ++ [(len : Int), (cap : Int)]) A).v l).toNat ∧
    (envA (namesD (dsOf ns) A len) (ns ++ [(len : Int), (cap : Int)]) A).v l = len := by
  have hv : (envA (namesD (dsOf ns) A len) (ns ++ [(len : Int), (cap : Int)]) A).v l = len := by
    show (ns ++ [(len : Int), (cap : Int)]).getD l 0 = len
    rw [← hl]; simp
  rw [own_any h, hv, Int.toNat_natCast]
  exact ⟨rfl, rfl⟩
/-- A law, the number of its ports known. -/
theorem law_of_tree {f : FuncId} {hs : List Ph} (h1 : phOne hs = true) (hk : phKs hs = portLk) (h11 : 11 ≤ phSize hs) {w : World} (ht : TabsIn tabs36 w) {b off : Nat} (hA : ArrIn w (phKs hs) b off len cap A) (hns : phFits hs ns) (hl : ns.length = phSize hs) {p : Fs} (hp : FsOk (envA (namesD (dsOf ns) A len) (ns ++ [(len : Int), (cap : Int)]) A) p)
    (h : (lawT f hs p).all isTrueF = true) : Calls Tryd.prog f (phVals hs ns [.slice (some ⟨b, off, none⟩) len cap]).toArray w fun e w' => e = .returned (.bool true) ∧ Below w.heap.size w w' :=
  pays_arr (keep := noKeep) (fuel := 80) (n := 30) tabs36 tabs36_nd ht mixed okF_ok (namesD (dsOf ns) A len) h1 hA hns hl hp (spD_ok (law_env (by omega) hl).1 ht) h
/-- A law by the number of its ports: 1 to 8, more, none, and a nil slice. -/
theorem law_by_len {f : FuncId} {hs : List Ph} (h1 : phOne hs = true) (hk : phKs hs = portLk) (h11 : 11 ≤ phSize hs) {w : World} (ht : TabsIn tabs36 w) {ss : List Value} (hns : phFits hs ns) (hl : ns.length = phSize hs) (hss : slFits w hs ss)
    (hm : ∀ m, 1 ≤ m → m ≤ 8 → ∀ (b off cap : Nat) (A : Nat → Nat → Int → Int), ArrIn w (phKs hs) b off m cap A → Calls Tryd.prog f (phVals hs ns [.slice (some ⟨b, off, none⟩) m cap]).toArray w fun e w' => e = .returned (.bool true) ∧ Below w.heap.size w w')
    (hg : (lawT f hs [(lt0 (.lit 8) (.var (phSize hs)), true)]).all isTrueF = true) (hE : (lawE f hs).all isTrueF = true) (hN : (lawN f hs).all isTrueF = true) :
    Calls Tryd.prog f (phVals hs ns ss).toArray w fun e w' => e = .returned (.bool true) ∧ Below w.heap.size w w' :=
  pays_slice_arr (F := namesD DsLaw.z (fun _ _ _ => 0) 0) tabs36 tabs36_nd mixed okF_ok h1 ht (fun ns A => sumsL_ok _ rfl ht) hns hl hss (fun b off len cap A hA hmax => by
    by_cases h8 : len ≤ 8
    · exact hm len hA.pos h8 b off cap A hA
    · exact law_of_tree h1 hk h11 ht hA hns hl (by
        rw [fsOk_cons, fsOk_nil, lt0_ev, lit_ev, var_ev, (law_env (by omega) hl).2]
        exact ⟨⟨fun _ => rfl, fun _ => by omega⟩, trivial⟩) hg) hE hN
theorem isLen_ok (h : 11 ≤ ns.length) {l : Nat} (hl : ns.length = l) : FsOk (envA (namesD (dsOf ns) A len) (ns ++ [(len : Int), (cap : Int)]) A) (isLen l len) := by
  rw [isLen, fsOk_cons, fsOk_nil, eq0_ev, litN_ev, var_ev, (law_env h hl).2]
  exact ⟨⟨fun _ => rfl, fun _ => rfl⟩, trivial⟩
/-- .. each number by its ways. -/
theorem law_by_trees {f : FuncId} {hs : List Ph} (h1 : phOne hs = true) (hk : phKs hs = portLk) (h11 : 11 ≤ phSize hs) {w : World} (ht : TabsIn tabs36 w) {ss : List Value} (hns : phFits hs ns) (hl : ns.length = phSize hs) (hss : slFits w hs ss)
    (hm : ∀ m, 1 ≤ m → m ≤ 8 → (lawT f hs (isLen (phSize hs) m)).all isTrueF = true)
    (hg : (lawT f hs [(lt0 (.lit 8) (.var (phSize hs)), true)]).all isTrueF = true) (hE : (lawE f hs).all isTrueF = true) (hN : (lawN f hs).all isTrueF = true) :
    Calls Tryd.prog f (phVals hs ns ss).toArray w fun e w' => e = .returned (.bool true) ∧ Below w.heap.size w w' :=
  law_by_len h1 hk h11 ht hns hl hss (fun m h1' h8 b off cap A hA => law_of_tree h1 hk h11 ht hA hns hl (isLen_ok (by omega) hl) (hm m h1' h8)) hg hE hN
end
theorem one_to_8 {p : Nat → Prop} (h1 : p 1) (h2 : p 2) (h3 : p 3) (h4 : p 4) (h5 : p 5) (h6 : p 6) (h7 : p 7) (h8 : p 8) : ∀ m, 1 ≤ m → m ≤ 8 → p m := fun m a b => by
  match m, a, b with
  | 1, _, _ => exact h1
  | 2, _, _ => exact h2
  | 3, _, _ => exact h3
  | 4, _, _ => exact h4
  | 5, _, _ => exact h5
  | 6, _, _ => exact h6
  | 7, _, _ => exact h7
  | 8, _, _ => exact h8
end Go.Proofs.YthbfjnmdjehljaaDoor
