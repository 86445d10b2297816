/- Laws with loops; laws with a slice, by whatever proof. Of no program. -/
import Derived.Test.YthbfjnmdjehljaaDoorSxL
namespace Go.Proofs.YthbfjnmdjehljaaDoor.SX
open Go Go.RowKit
set_option linter.unusedVariables false
set_option linter.unusedSimpArgs false

/-! ### Laws -/
section
variable {P : Program} {ρ : Env} {w0 : World} {M : Nat → Prop} {gl : Gl} {β : Bm} {w : World} {hp : Hp} {fs : Fs}
theorem entry_conc {fn : Func} {args : List SV} (hh : Heap ρ w0 M β hp w) (hf : FsOk ρ fs) (ha : SV.oks ρ hp.n args) (hg : GlOk gl β hp.n) :
    Conc ρ w0 M gl β (entrySt fn args hp fs) { tmps := (SV.evs ρ β args).toArray ++ Array.replicate (fn.ntmps - (SV.evs ρ β args).toArray.size) undef, defers := [] } w := by
  have hlen : (SV.evs ρ β args).toArray.size = args.length := by rw [SV.evs_map]; simp
  refine ⟨by simp [SV.evs_map, entrySt], fun i hi => ?_, rfl, fun i _ => ?_, hh, hf, hg⟩
  · simp only [entrySt] at hi ⊢
    by_cases hia : i < args.length
    · rw [Array.getElem?_append_left (by rw [hlen]; exact hia), List.getElem?_toArray, SV.evs_map, List.getElem?_map]
      simp [hia]
    · rw [Array.getElem?_append_right (by rw [hlen]; omega), hlen]
      rw [Array.getElem?_replicate, if_pos (by omega)]
      simp only [List.getD, List.getElem?_eq_none (Nat.le_of_not_lt hia)]
      rfl
  · simp only [entrySt, List.getD]
    cases hs : args[i]? with
    | none => trivial
    | some s => exact oks_get ha hs
/-- A law with loops, all of whose ways end with true. -/
theorem pays_loops {okF : FuncId → Bool} {sums : Sums} {keep : FuncId → Nat → List Nat} {fuel n : Nat} {cuts : List Cut} {call : Caller} (hcall : call = callF P gl okF sums keep fuel n) (hm : P.follows .mixedOrders = true) (hok : ∀ f, okF f = true → ∀ as w, (callFunc f as).run P w = .ok (.enter f as) w)
    {f : FuncId} {fn : Func} {C : Code} (hfn : P.funcs[f]? = some fn) (hbd : fn.body = some C) {args : List SV} {fs0 : Fs} {rk : Nat} (hh : Heap ρ w (fun _ => False) β hp w) (hg : GlOk gl β hp.n) (hfs : FsOk ρ fs0)
    (hsum : ∀ ρ', SameEnv ρ ρ' → SumsOk P ρ' w (fun _ => False) sums) (hargs : SV.oks ρ hp.n args)
    (hr : ∀ c ∈ cuts, ∀ τ ∈ c.ts, ∃ ct : CT, ∀ g, ct.all fun p => roundOk P gl call (keep f) fuel cuts (lawEnd P fn) C p c τ g = true)
    (h : (execP P gl call (keep f) fuel C (entrySt fn args hp fs0)).all (leafOk gl cuts (lawEnd P fn) rk) = true) :
    Calls P f (SV.evs ρ β args).toArray w fun e w' => e = .returned (.bool true) ∧ Below w.heap.size w w' := by
  subst hcall
  refine calls_of_wp hfn hbd (code_run (fun ρ' hρ => callF_run hm hok (hsum ρ' hρ) n) hm ?_ hr (entry_conc hh hfs hargs hg) (T.all_holds h))
  intro ρ' β' r a w' hρ hst he
  obtain ⟨x, st⟩ := r
  unfold lawEnd at he
  have fin : ∀ vs, resultsS P st fn.results.toList = some vs → (isTrueF ⟨packS vs, st.hp, st.facts⟩ || absurdB st.facts st.facts) = true → a.defers = [] ∧ ∃ v, (results fn a.tmps).run P w' = .ok v w' ∧ (Ending.returned v = .returned (.bool true) ∧ Below w.heap.size w w') := fun vs hvs ht => by
    obtain ⟨r1, r2⟩ := results_run hst hvs
    rw [Bool.or_eq_true] at ht
    rcases ht with ht | ht
    rotate_left
    · exact (absurdB_spec hst.facts ht).elim
    have := isTrueF_spec (o := ⟨packS vs, st.hp, st.facts⟩) hst.facts ht β'
    simp only at this
    rw [this] at r1
    exact ⟨hst.defers, _, r1, rfl, hst.heap.kept.to_below⟩
  cases x with
  | exit id => cases he
  | normal =>
    simp only at he
    split at he
    · rename_i vs hvs; exact fin vs hvs he
    · cases he
  | ret =>
    simp only at he
    split at he
    · rename_i vs hvs; exact fin vs hvs he
    · cases he
end
section
variable {P : Program} {F : Nat → Nat → List Int → Int}
/-- A law with one slice: elements (by whatever proof), none, and a nil slice. -/
theorem pays_slice_by {okF : FuncId → Bool} {sums : Sums} {keep : FuncId → Nat → List Nat} {fuel n : Nat} (tabs : Tabs) (hd : (tabs.map (·.1)).Nodup) (hm : P.follows .mixedOrders = true) (hok : ∀ f, okF f = true → ∀ as w, (callFunc f as).run P w = .ok (.enter f as) w)
    {f : FuncId} {hs : List Ph} (h1 : phOne hs = true) {w : World} (ht : TabsIn tabs w) (hsum : ∀ ns A, SumsOk P (envA F ns A) w (fun _ => False) sums)
    (t1 : ∀ (ns : List Int) (A : Nat → Nat → Int → Int) (β : Bm), Heap (envA F ns A) w (fun _ => False) β (arrHp tabs (phKs hs) (phSize hs)) w → GlOk (tabGl tabs 0) β (tabs.length + 1) → FsOk (envA F ns A) (lenFacts (phSize hs) ++ phFacts hs 0) →
      SV.oks (envA F ns A) (tabs.length + 1) (phArgs tabs.length (phSize hs) none hs 0) →
      Calls P f (SV.evs (envA F ns A) β (phArgs tabs.length (phSize hs) none hs 0)).toArray w fun e w' => e = .returned (.bool true) ∧ Below w.heap.size w w')
    (t2 : (callF P (tabGl tabs 0) okF sums keep fuel n f (phArgs tabs.length (phSize hs) (some (inpNo tabs.length (phKs hs).length (phSize hs))) hs 0) (noHp tabs) (phFacts hs 0)).all isTrueF = true)
    (t3 : (callF P (tabGl tabs 0) okF sums keep fuel n f (phArgs tabs.length (phSize hs) (some rawNil) hs 0) (noHp tabs) (phFacts hs 0)).all isTrueF = true)
    (ns : List Int) (ss : List Value) (hns : phFits hs ns) (hlen : ns.length = phSize hs) (hss : slFits w hs ss) :
    Calls P f (phVals hs ns ss).toArray w fun e w' => e = .returned (.bool true) ∧ Below w.heap.size w w' := by
  obtain ⟨hz, hks, S, hS, hget⟩ := phOne_spec h1 hss
  have hT := tab_heap hd ht (fun _ => False)
  have hgl : ∀ {bv : Nat × Nat}, GlOk (tabGl tabs 0) (upd (tabB tabs) tabs.length bv) (tabs.length + 1) := fun {bv} => tab_gl (fun j p hj => by
      have hjl := (List.getElem?_eq_some_iff.1 hj).1
      have : upd (tabB tabs) tabs.length bv (0 + j) = tabB tabs j := by rw [Nat.zero_add]; exact upd_ext _ _ _ j hjl
      rw [this]; simp [tabB, hj]) (by omega)
  have go : ∀ (len cap : Int), phVals hs (ns ++ [len, cap]) ss = phVals hs ns ss ∧ phFits hs (ns ++ [len, cap]) := fun len cap => by
    obtain ⟨a, b⟩ := ph_append (hs := hs) (ms := [len, cap]) (ss := ss) hlen
    exact ⟨a, b.2 hns⟩
  have hv1 : ∀ (len cap : Int), (ns ++ [len, cap]).getD (phSize hs) 0 = len ∧ (ns ++ [len, cap]).getD (phSize hs + 1) 0 = cap := fun len cap => by
    rw [← hlen]
    simp
  have no : ∀ (raw : SV) (bv : Nat × Nat) (len cap : Int) (A : Nat → Nat → Int → Int), raw.ev (envA F (ns ++ [len, cap]) A) (upd (tabB tabs) tabs.length bv) = S → raw.ok (envA F (ns ++ [len, cap]) A) (tabs.length + 1) →
      (callF P (tabGl tabs 0) okF sums keep fuel n f (phArgs tabs.length (phSize hs) (some raw) hs 0) (noHp tabs) (phFacts hs 0)).all isTrueF = true →
      Calls P f (phVals hs ns ss).toArray w fun e w' => e = .returned (.bool true) ∧ Below w.heap.size w w' := fun raw bv len cap A hev hrk tr => by
    obtain ⟨g1, g2⟩ := go len cap
    obtain ⟨p1, p2⟩ := phArgs_spec (F := F) (A := A) (n := tabs.length + 1) (k := tabs.length) (m := phSize hs) (raw := some raw) (ks := phKs hs) hev hrk (hs := hs) (i := 0) (ss := ss) g2 hks hget
    rw [List.drop_zero, g1] at p1
    rw [← p1]
    exact pays_heap (hp := noHp tabs) hm hok ((hT (envA F (ns ++ [len, cap]) A)).pushRo (b := .gone) rfl trivial trivial (fun h => by cases h)) hgl (phFacts_ok g2) (hsum _ _) p2 (T.all_holds tr)
  rcases hS with hS | ⟨b, off, len, cap, c, hS, hle, hmax, hb, hcell⟩
  · exact no rawNil (0, 0) 0 0 (fun _ _ _ => 0) hS.symm trivial t3
  · by_cases h0 : len = 0
    · subst h0
      obtain ⟨v1, v2⟩ := hv1 0 cap
      refine no (inpNo tabs.length (phKs hs).length (phSize hs)) (b, off) 0 cap (fun _ _ _ => 0) ?_ ⟨Nat.lt_succ_self _, (show (Lit.int .i64 0).wf = true by decide), Int.le_refl _, ?_, by simp [E.ev]⟩ t2
      · rw [hS]
        simp only [inpNo, SV.ev, upd_same, E.ev, envA, v2]
        simp
      · simp only [E.ev, envA, v2]
        exact Int.natCast_nonneg _
    · obtain ⟨g1, g2⟩ := go len cap
      obtain ⟨v1, v2⟩ := hv1 len cap
      have hmx : (cap : Int) ≤ 9223372036854775807 := by unfold maxLen at hmax; omega
      have i1 : IntKind.i64.min = -9223372036854775808 := by decide
      have i2 : IntKind.i64.max = 9223372036854775807 := by decide
      have hr : (SV.inp tabs.length (phKs hs).length 0 (.var (phSize hs)) (.var (phSize hs)) (.var (phSize hs + 1))).ok (envA F (ns ++ [(len : Int), (cap : Int)]) (arrOf (phKs hs) c)) (tabs.length + 1) := by
        refine ⟨Nat.lt_succ_self _, ?_, ?_, ?_, ?_⟩ <;> simp only [E.ev, envA, v1, v2]
        · exact (wf_iff .i64 _).2 (by rw [i1, i2]; omega)
        · exact Int.natCast_nonneg _
        · omega
        · omega
      obtain ⟨p1, p2⟩ := phArgs_spec (F := F) (A := arrOf (phKs hs) c) (β := upd (tabB tabs) tabs.length (b, off)) (n := tabs.length + 1) (k := tabs.length) (m := phSize hs) (raw := none) (ks := phKs hs) (S := S) (by
        rw [hS]
        simp only [Option.getD_none, SV.ev, upd_same, E.ev, envA, v1, v2]
        simp) hr (hs := hs) (i := 0) (ss := ss) g2 hks hget
      rw [List.drop_zero, g1] at p1
      rw [← p1]
      refine t1 (ns ++ [(len : Int), (cap : Int)]) (arrOf (phKs hs) c) _ ((hT _).pushRo (b := .arr 0 (phKs hs) (.var (phSize hs))) (bv := (b, off)) rfl trivial ?_ (fun _ => ⟨hb (by omega), fun h => h⟩)) hgl ?_ p2
      · intro i f' l hi hl
        simp only [E.ev, envA, v1] at hi
        have hi' : i < len := by simpa using hi
        obtain ⟨q1, q2⟩ := arrOf_spec (F := F) (ns := ns ++ [(len : Int), (cap : Int)]) hl (hcell i f' l hl).1
        exact ⟨by rw [q1]; exact (hcell i f' l hl).2 hi', q2⟩
      · refine fsOk_app ?_ (phFacts_ok g2)
        intro p hp
        simp only [lenFacts, List.mem_cons, List.not_mem_nil, or_false] at hp
        rcases hp with rfl | rfl | rfl | rfl <;> simp only [E.ev, BOp.ev, envA, v1, v2, i1, i2]
        · have : (0 : Int) < len := by omega
          rw [if_pos this]; simp
        · rw [if_pos (by omega)]; simp
        · rw [if_pos (by omega)]; simp
        · have : ¬ (cap : Int) < len := by omega
          rw [if_neg this]; simp
end
end Go.Proofs.YthbfjnmdjehljaaDoor.SX
