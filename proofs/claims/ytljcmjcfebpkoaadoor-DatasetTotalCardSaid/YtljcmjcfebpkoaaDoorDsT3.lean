/- Layer 34, DatasetTotal: all its ways end with true. -/
import Derived.Test.YtljcmjcfebpkoaaDoorDsT2a
import Derived.Test.YtljcmjcfebpkoaaDoorDsT2b
import Derived.Test.YtljcmjcfebpkoaaDoorDsT2c
namespace Go.Proofs.YtljcmjcfebpkoaaDoor
open Go Go.RowKit SX
open DsLaw (lt)
set_option linter.unusedVariables false
section
variable {ns : List Int}
theorem tot_run {i j k : Nat} {ff : Fs} (h : (totT i j k ff).all isTrueF = true) (hns : shFits totSh ns) (hi : dsSh.fits (ns.drop i)) (hj : dsSh.fits (ns.drop j)) (hk : dsSh.fits (ns.drop k)) (hf : FsOk (envOf namesL ns) ff)
    (e : shVals totSh ns = [dsV (dsOf (ns.drop i)), dsV (dsOf (ns.drop j)), dsV (dsOf (ns.drop k))]) (w : World) (ht : TabsIn tabs34 w) :
    Calls Tryd.prog 7 (shVals totSh ns).toArray w fun e w' => e = .returned (.bool true) ∧ Below w.heap.size w w' := by
  have one : ∀ i, dsSh.fits (ns.drop i) → (varSh dsSh i).ev (envOf namesL ns) β0 = dsV (dsOf (ns.drop i)) ∧ (varSh dsSh i).ok (envOf namesL ns) 0 := fun i hi => by
    obtain ⟨a1, a2, _⟩ := varLks_spec (F := namesL) (β := β0) (n := 0) (i := i) (ns := ns) (ls := [.int .i64, .int .i64, .int .i64, .int .i64, .int .i64, .int .u64, .int .i64, .int .u64, .int .i64, .int .u64, .int .i64]) hi
    refine ⟨?_, a2⟩
    rw [← val_ds]
    show Value.agg (SV.evs (envOf namesL ns) β0 _).toArray = Value.agg (vals _ (ns.drop i)).toArray
    rw [a1]
  have he : SV.evs (envOf namesL ns) β0 (at3 i j k) = shVals totSh ns := by
    rw [e]
    simp only [at3, SV.evs, (one i hi).1, (one j hj).1, (one k hk).1]
  rw [← he]
  exact pays_facts tabs34 tabs34_nd ht mixed okF_ok (learnAll_ok hf (varFacts_ok (hs := totSh) (i := 0) (by rwa [List.drop_zero]))) (sumsL_ok _ rfl w ht) ⟨(one i hi).2, (one j hj).2, (one k hk).2, trivial⟩ rfl (T.all_holds h)
theorem tot_vals (ns : List Int) : shVals totSh ns = [dsV (dsOf (ns.drop 0)), dsV (dsOf (ns.drop 11)), dsV (dsOf (ns.drop 22))] := by
  show [dsSh.val ns, dsSh.val (ns.drop 11), dsSh.val ((ns.drop 11).drop 11)] = _
  rw [List.drop_drop, val_ds, val_ds, val_ds, List.drop_zero]
theorem tot_pays (ns : List Int) (hns : shFits totSh ns) (w : World) (ht : TabsIn tabs34 w) : Calls Tryd.prog 7 (shVals totSh ns).toArray w fun e w' => e = .returned (.bool true) ∧ Below w.heap.size w w' := by
  have f0 : dsSh.fits (ns.drop 0) := by rw [List.drop_zero]; exact hns.1
  have f1 : dsSh.fits (ns.drop 11) := hns.2.1
  have f2 : dsSh.fits (ns.drop 22) := by have := hns.2.2.1; rwa [List.drop_drop] at this
  have hv := tot_vals ns
  by_cases ab : dsOf (ns.drop 0) = dsOf (ns.drop 11)
  · by_cases bc : dsOf (ns.drop 0) = dsOf (ns.drop 22)
    · exact tot_run (i := 0) (j := 0) (k := 0) tot_ABC hns f0 f0 f0 (lessF_ok (iff_of_false (DsLaw.lt_irrefl _) Bool.false_ne_true)) (by rw [hv, ← ab, ← bc]) w ht
    · rcases DsLaw.lt_total bc with h | h
      · exact tot_run (i := 0) (j := 0) (k := 22) tot_AB1 hns f0 f0 f2 (two_ok h) (by rw [hv, ← ab]) w ht
      · exact tot_run (i := 0) (j := 0) (k := 22) tot_AB2 hns f0 f0 f2 (two_ok h) (by rw [hv, ← ab]) w ht
  · by_cases ac : dsOf (ns.drop 0) = dsOf (ns.drop 22)
    · rcases DsLaw.lt_total ab with h | h
      · exact tot_run (i := 0) (j := 11) (k := 0) tot_AC1 hns f0 f1 f0 (two_ok h) (by rw [hv, ← ac]) w ht
      · exact tot_run (i := 0) (j := 11) (k := 0) tot_AC2 hns f0 f1 f0 (two_ok h) (by rw [hv, ← ac]) w ht
    · by_cases bc : dsOf (ns.drop 11) = dsOf (ns.drop 22)
      · rcases DsLaw.lt_total ab with h | h
        · exact tot_run (i := 0) (j := 11) (k := 11) tot_BC1 hns f0 f1 f1 (two_ok h) (by rw [hv, ← bc]) w ht
        · exact tot_run (i := 0) (j := 11) (k := 11) tot_BC2 hns f0 f1 f1 (two_ok h) (by rw [hv, ← bc]) w ht
      · rcases DsLaw.lt_total ab with h1 | h1 <;> rcases DsLaw.lt_total bc with h2 | h2 <;> rcases DsLaw.lt_total ac with h3 | h3
        · exact tot_run tot_P012 hns f0 f1 f2 (three_ok h1 h2) hv w ht
        · exact absurd (DsLaw.lt_trans h1 h2) (DsLaw.lt_asymm h3)
        · exact tot_run tot_P021 hns f0 f1 f2 (three_ok h3 h2) hv w ht
        · exact tot_run tot_P201 hns f0 f1 f2 (three_ok h3 h1) hv w ht
        · exact tot_run tot_P102 hns f0 f1 f2 (three_ok h1 h3) hv w ht
        · exact tot_run tot_P120 hns f0 f1 f2 (three_ok h2 h3) hv w ht
        · exact absurd (DsLaw.lt_trans h2 h1) (DsLaw.lt_asymm h3)
        · exact tot_run tot_P210 hns f0 f1 f2 (three_ok h2 h1) hv w ht
end
end Go.Proofs.YtljcmjcfebpkoaaDoor
