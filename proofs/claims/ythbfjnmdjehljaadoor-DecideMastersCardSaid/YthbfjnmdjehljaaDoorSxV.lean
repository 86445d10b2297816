/- Laws with the ranges of their variables as facts, and ends by the facts. Of no program. -/
import Derived.Test.YthbfjnmdjehljaaDoorSxO
namespace Go.Proofs.YthbfjnmdjehljaaDoor.SX
open Go Go.RowKit
set_option linter.unusedVariables false

/-- Facts that cannot be. -/
def absurdF (fs : Fs) : Fs → Bool
  | [] => false
  | (c, b) :: l => (match canon fs c with
    | .lit n => (n != 0) != b
    | _ => false) || absurdF fs l
theorem absurdF_spec {ρ : Env} {fs : Fs} (hf : FsOk ρ fs) : ∀ {l : Fs}, FsOk ρ l → absurdF fs l = true → False
  | [], _, h => by cases h
  | (c, b) :: l, hl, h => by
    simp only [absurdF, Bool.or_eq_true] at h
    rcases h with h | h
    · split at h
      · rename_i n hn
        have h1 := canon_ev (ρ := ρ) (fs := fs) hf c
        have h2 := hl (c, b) (List.mem_cons_self ..)
        simp only at h2
        rw [← h1, hn] at h2
        simp only [E.ev] at h2
        cases b <;> by_cases h0 : n = 0 <;> simp_all
      · cases h
    · exact absurdF_spec hf (fun p hp => hl p (List.mem_cons_of_mem _ hp)) h
/-- An end that is true by its facts, or that cannot be. -/
def isTrueF (o : Out) : Bool :=
  (match o.v with
  | .bool e => match decideE o.fs e with
    | some b => b
    | none => false
  | _ => false) || absurdF o.fs o.fs
theorem isTrueF_spec {ρ : Env} {o : Out} (hf : FsOk ρ o.fs) (h : isTrueF o = true) (β : Bm) : o.v.ev ρ β = .bool true := by
  simp only [isTrueF, Bool.or_eq_true] at h
  rcases h with ho | ho
  · split at ho
    · rename_i e hv
      split at ho
      · rename_i b hb
        subst ho
        have := decideE_spec hf hb
        rw [hv]
        simp only [SV.ev, this]
      · cases ho
    · cases ho
  · exact (absurdF_spec hf hf ho).elim
def lkFacts : Lk → Nat → Fs
  | .int k, i => [(.bin .zrng k (.var i) (.lit 0), true)]
  | .bool, _ => []
def lksFacts : List Lk → Nat → Fs
  | [], _ => []
  | l :: ls, i => lkFacts l i ++ lksFacts ls (i + 1)
def shFacts : Sh → Nat → Fs
  | .one l, i => lkFacts l i
  | .agg ls, i => lksFacts ls i
/-- The ranges of the variables. -/
def varFacts : List Sh → Nat → Fs
  | [], _ => []
  | h :: hs, i => shFacts h i ++ varFacts hs (i + h.size)
section
variable {F : Nat → Nat → List Int → Int} {ns : List Int}
theorem lkFacts_ok {l : Lk} {i : Nat} (h : l.fits (ns.getD i 0)) : FsOk (envOf F ns) (lkFacts l i) := by
  intro p hp
  cases l with
  | bool => cases hp
  | int k =>
    obtain rfl : p = (.bin .zrng k (.var i) (.lit 0), true) := by simpa [lkFacts] using hp
    have := (wf_iff k _).1 h
    show (if k.min ≤ ns.getD i 0 ∧ ns.getD i 0 ≤ k.max then (1 : Int) else 0) ≠ 0 ↔ true = true
    rw [if_pos this]
    simp
theorem fsOk_app {ρ : Env} {a b : Fs} (ha : FsOk ρ a) (hb : FsOk ρ b) : FsOk ρ (a ++ b) := fun p hp => (List.mem_append.1 hp).elim (ha p) (hb p)
theorem lksFacts_ok : ∀ {ls : List Lk} {i : Nat}, SX.fits ls (ns.drop i) → FsOk (envOf F ns) (lksFacts ls i)
  | [], _, _ => fun p hp => by cases hp
  | l :: ls, i, h => by
    simp only [SX.fits, headD_drop, List.tail_drop] at h
    exact fsOk_app (lkFacts_ok h.1) (lksFacts_ok h.2)
theorem varFacts_ok : ∀ {hs : List Sh} {i : Nat}, shFits hs (ns.drop i) → FsOk (envOf F ns) (varFacts hs i)
  | [], _, _ => fun p hp => by cases hp
  | h :: hs, i, hf => by
    simp only [shFits, List.drop_drop] at hf
    refine fsOk_app ?_ (varFacts_ok hf.2)
    cases h with
    | one l =>
      have h1 := hf.1
      simp only [Sh.fits, headD_drop] at h1
      exact lkFacts_ok h1
    | agg ls => exact lksFacts_ok hf.1
end
section
variable {P : Program} {ρ : Env} {w : World}
/-- A law all of whose ways end with true, by their facts. -/
theorem pays_facts {okF : FuncId → Bool} {sums : Sums} {keep : FuncId → Nat → List Nat} {fuel n : Nat} (tabs : Tabs) (hd : (tabs.map (·.1)).Nodup) (ht : TabsIn tabs w) (hm : P.follows .mixedOrders = true) (hok : ∀ f, okF f = true → ∀ as w, (callFunc f as).run P w = .ok (.enter f as) w)
    {f : FuncId} {args : List SV} {fs0 : Fs} (hfs : FsOk ρ fs0) (hsum : SumsOk P ρ w (fun _ => False) sums) (hargs : SV.oks ρ 0 args) (hfl : SV.flats args = true) (h : (callF P (tabGl tabs 0) okF sums keep fuel n f args (tabHp tabs) fs0).holds ρ fun o => isTrueF o = true) :
    Calls P f (SV.evs ρ β0 args).toArray w fun e w' => e = .returned (.bool true) ∧ Below w.heap.size w w' := by
  rw [SV.evs_flat β0 (tabB tabs) args hfl]
  refine ((callF_run (gl := tabGl tabs 0) hm hok hsum n f args (tabHp tabs) fs0 (tabB tabs) w (fun v w' => v = .bool true ∧ Below w.heap.size w w') (tab_heap hd ht _ ρ) hfs (SV.oks_mono (Nat.zero_le _) _ hargs)
    (tab_gl (fun j p hj => by simp [tabB, hj]) (by simp [tabHp]))
    (T.holds_mono (fun o ho β' w' _ _ _ hh hf _ => ?_) h)).2).mono fun e w' ⟨v, he, hv, hb⟩ => ⟨by rw [he, hv], hb⟩
  exact ⟨isTrueF_spec hf ho β', hh.kept.to_below⟩
end
end Go.Proofs.YthbfjnmdjehljaaDoor.SX
