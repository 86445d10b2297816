/- Laws with a slice, by contracts, their loops run to the ends; ends by rules. Of no program. -/
import Derived.Test.YthbfjnmdjehljaaDoorSxJ
namespace Go.Proofs.YthbfjnmdjehljaaDoor.SX
open Go Go.RowKit
set_option linter.unusedVariables false
set_option linter.unusedSimpArgs false
section
variable {P : Program} {w : World}
/-- A law with a slice of elements, all of whose ways end with true (loops are run to their ends). -/
theorem pays_arr {okF : FuncId → Bool} {sp : Spc} {keep : FuncId → Nat → List Nat} {fuel n : Nat} {b off len cap : Nat} {A : Nat → Nat → Int → Int} (tabs : Tabs) (hd : (tabs.map (·.1)).Nodup) (ht : TabsIn tabs w) (hm : P.follows .mixedOrders = true) (hok : ∀ f, okF f = true → ∀ as w, (callFunc f as).run P w = .ok (.enter f as) w) (F : Nat → Nat → List Int → Int)
    {f : FuncId} {hs : List Ph} (h1 : phOne hs = true) (h : ArrIn w (phKs hs) b off len cap A) {ns : List Int} (hns : phFits hs ns) (hlen : ns.length = phSize hs) {p : Fs} (hp : FsOk (envA F (ns ++ [(len : Int), (cap : Int)]) A) p)
    (hsp : SpecOk P (envA F (ns ++ [(len : Int), (cap : Int)]) A) w (fun _ => False) (tabGl tabs 0) sp)
    (he : (callG P (tabGl tabs 0) okF sp keep fuel n f (phArgs tabs.length (phSize hs) none hs 0) (arrHp tabs (phKs hs) (phSize hs)) (p ++ (lenFacts (phSize hs) ++ phFacts hs 0))).all isTrueF = true) :
    Calls P f (phVals hs ns [.slice (some ⟨b, off, none⟩) len cap]).toArray w fun e w' => e = .returned (.bool true) ∧ Below w.heap.size w w' := by
  have hv1 : (ns ++ [(len : Int), (cap : Int)]).getD (phSize hs) 0 = len := by rw [← hlen]; simp
  have hv2 : (ns ++ [(len : Int), (cap : Int)]).getD (phSize hs + 1) 0 = cap := by rw [← hlen]; simp
  obtain ⟨a1, a2⟩ := ph_append (hs := hs) (ms := [(len : Int), (cap : Int)]) (ss := [.slice (some ⟨b, off, none⟩) len cap]) hlen
  have hf := a2.2 hns
  obtain ⟨s1, s2, s3, s4, s5⟩ := arr_start tabs hd ht h F (ns ++ [(len : Int), (cap : Int)]) (m := phSize hs) hv1 hv2
  obtain ⟨p1, p2⟩ := phArgs_spec (F := F) (A := A) (n := tabs.length + 1) (k := tabs.length) (m := phSize hs) (raw := none) (ks := phKs hs) s5 s4 (hs := hs) (i := 0) (ss := [.slice (some ⟨b, off, none⟩) len cap]) hf (phOne_ks h1) (fun j hj => by
    have e1 := phOne_one h1
    have : j < 1 := e1 ▸ hj
    obtain rfl : j = 0 := by omega
    rfl)
  rw [List.drop_zero, a1] at p1
  rw [← p1]
  refine ((callG_run (gl := tabGl tabs 0) (keep := keep) (fuel := fuel) hm hok hsp n f _ _ _ _ w (fun v w' => v = .bool true ∧ Below w.heap.size w w') s1 (fsOk_app hp (fsOk_app s3 (phFacts_ok hf))) p2 s2
    (T.holds_mono (fun o ho β' w' _ _ _ hh hf _ => ?_) (T.all_holds he))).2).mono fun e w' ⟨v, he, hv, hb⟩ => ⟨by rw [he, hv], hb⟩
  exact ⟨isTrueF_spec hf ho β', hh.kept.to_below⟩
/-- .. and whose loops are cut. -/
theorem pays_arr_cut {call : Caller} {keep : Nat → List Nat} {fuel : Nat} {cuts : List CutR} {C : Code} {b off len cap : Nat} {A : Nat → Nat → Int → Int} (tabs : Tabs) (hd : (tabs.map (·.1)).Nodup) (ht : TabsIn tabs w) (hm : P.follows .mixedOrders = true) (F : Nat → Nat → List Int → Int)
    {f : FuncId} {fn : Func} (hfn : P.funcs[f]? = some fn) (hbd : fn.body = some C) {hs : List Ph} (h1 : phOne hs = true) (h : ArrIn w (phKs hs) b off len cap A) {ns : List Int} (hns : phFits hs ns) (hlen : ns.length = phSize hs) {rk : Nat} {p : Fs} (hp : FsOk (envA F (ns ++ [(len : Int), (cap : Int)]) A) p)
    (hc : ∀ ρ', SameK (phSize hs + 2) (envA F (ns ++ [(len : Int), (cap : Int)]) A) ρ' → CallOk P ρ' w (fun _ => False) (tabGl tabs 0) call)
    (hrule : ∀ ρ', SameK (phSize hs + 2) (envA F (ns ++ [(len : Int), (cap : Int)]) A) ρ' → ∀ c ∈ cuts, ∀ t ∈ c.ts, ∀ r ∈ t.rs, RuleOk ρ' r)
    (hr : ∀ c ∈ cuts, ∀ t ∈ c.ts, ∃ ct : CT, ∀ g, ct.all fun p => roundOkR P (tabGl tabs 0) call keep fuel cuts (lawEnd P fn) (phSize hs + 2) C p c t g = true) {rs0 : List Rule} (hr0 : ∀ r ∈ rs0, RuleOk (envA F (ns ++ [(len : Int), (cap : Int)]) A) r)
    (he : (execP P (tabGl tabs 0) call keep fuel C (entrySt fn (phArgs tabs.length (phSize hs) none hs 0) (arrHp tabs (phKs hs) (phSize hs)) (p ++ (lenFacts (phSize hs) ++ phFacts hs 0)))).all (leafOkR (tabGl tabs 0) cuts (lawEnd P fn) (phSize hs + 2) rs0 rk) = true) :
    Calls P f (phVals hs ns [.slice (some ⟨b, off, none⟩) len cap]).toArray w fun e w' => e = .returned (.bool true) ∧ Below w.heap.size w w' :=
  fn_arr tabs hd ht hm F hfn hbd h1 h hns hlen hp hc hrule hr hr0 he fun ρ' β' r a w' hρ hst hend => lawEnd_spec hst hend
end
end Go.Proofs.YthbfjnmdjehljaaDoor.SX
