/- Laws with the ranges of their variables as facts, and ends by the facts. Of no program. -/
import Derived.Test.YtocllfanlijmlaaSxO
namespace Go.Proofs.Ytocllfanlijmlaa.SX
open Go Go.RowKit
set_option linter.unusedVariables false

/-- An end that is true by its facts. -/
def isTrueF (o : Out) : Bool :=
  match o.v with
  | .bool e => match decideE o.fs e with
    | some b => b
    | none => false
  | _ => false
def lkFacts : Lk → Nat → Fs
  | .int k, i => [(.bin .zrng k (.var i) (.lit 0), true)]
  | .bool, _ => []
def lksFacts : List Lk → Nat → Fs
  | [], _ => []
  | l :: ls, i => lkFacts l i ++ lksFacts ls (i + 1)
def shFacts : Sh → Nat → Fs
  | .one l, i => lkFacts l i
  | .agg ls, i => lksFacts ls i
/-- The ranges of the variables. -/
def varFacts : List Sh → Nat → Fs
  | [], _ => []
  | h :: hs, i => shFacts h i ++ varFacts hs (i + h.size)
section
variable {F : Nat → Nat → List Int → Int} {ns : List Int}
theorem lkFacts_ok {l : Lk} {i : Nat} (h : l.fits (ns.getD i 0)) : FsOk (envOf F ns) (lkFacts l i) := by
  intro p hp
  cases l with
  | bool => cases hp
  | int k =>
    obtain rfl : p = (.bin .zrng k (.var i) (.lit 0), true) := by simpa [lkFacts] using hp
    have := (wf_iff k _).1 h
    show (if k.min ≤ ns.getD i 0 ∧ ns.getD i 0 ≤ k.max then (1 : Int) else 0) ≠ 0 ↔ true = true
    rw [if_pos this]
    simp
theorem fsOk_app {ρ : Env} {a b : Fs} (ha : FsOk ρ a) (hb : FsOk ρ b) : FsOk ρ (a ++ b) := fun p hp => (List.mem_append.1 hp).elim (ha p) (hb p)
theorem lksFacts_ok : ∀ {ls : List Lk} {i : Nat}, SX.fits ls (ns.drop i) → FsOk (envOf F ns) (lksFacts ls i)
  | [], _, _ => fun p hp => by cases hp
  | l :: ls, i, h => by
    simp only [SX.fits, headD_drop, List.tail_drop] at h
    exact fsOk_app (lkFacts_ok h.1) (lksFacts_ok h.2)
theorem varFacts_ok : ∀ {hs : List Sh} {i : Nat}, shFits hs (ns.drop i) → FsOk (envOf F ns) (varFacts hs i)
  | [], _, _ => fun p hp => by cases hp
  | h :: hs, i, hf => by
    simp only [shFits, List.drop_drop] at hf
    refine fsOk_app ?_ (varFacts_ok hf.2)
    cases h with
    | one l =>
      have h1 := hf.1
      simp only [Sh.fits, headD_drop] at h1
      exact lkFacts_ok h1
    | agg ls => exact lksFacts_ok hf.1
end
section
variable {P : Program} {ρ : Env} {w : World}
/-- A law all of whose ways end with true, by their facts. -/
theorem pays_facts {okF : FuncId → Bool} {sums : Sums} {keep : FuncId → Nat → List Nat} {fuel n : Nat} (tabs : Tabs) (hd : (tabs.map (·.1)).Nodup) (ht : TabsIn tabs w) (hm : P.follows .mixedOrders = true) (hok : ∀ f, okF f = true → ∀ as w, (callFunc f as).run P w = .ok (.enter f as) w)
    {f : FuncId} {args : List SV} {fs0 : Fs} (hfs : FsOk ρ fs0) (hsum : SumsOk P ρ w (fun _ => False) sums) (hargs : SV.oks ρ 0 args) (hfl : SV.flats args = true) (h : (callF P (tabGl tabs 0) okF sums keep fuel n f args (tabHp tabs) fs0).holds ρ fun o => isTrueF o = true) :
    Calls P f (SV.evs ρ β0 args).toArray w fun e w' => e = .returned (.bool true) ∧ Below w.heap.size w w' := by
  rw [SV.evs_flat β0 (tabB tabs) args hfl]
  refine ((callF_run (gl := tabGl tabs 0) hm hok hsum n f args (tabHp tabs) fs0 (tabB tabs) w (fun v w' => v = .bool true ∧ Below w.heap.size w w') (tab_heap hd ht _ ρ) hfs (SV.oks_mono (Nat.zero_le _) _ hargs)
    (tab_gl (fun j p hj => by simp [tabB, hj]) (by simp [tabHp]))
    (T.holds_mono (fun o ho β' w' _ _ _ hh hf _ => ?_) h)).2).mono fun e w' ⟨v, he, hv, hb⟩ => ⟨by rw [he, hv], hb⟩
  refine ⟨?_, hh.kept.to_below⟩
  unfold isTrueF at ho
  split at ho
  · rename_i e hv
    split at ho
    · rename_i b hb
      subst ho
      have := decideE_spec hf hb
      rw [hv]
      simp only [SV.ev, this]
    · cases ho
  · cases ho
end
end Go.Proofs.Ytocllfanlijmlaa.SX
