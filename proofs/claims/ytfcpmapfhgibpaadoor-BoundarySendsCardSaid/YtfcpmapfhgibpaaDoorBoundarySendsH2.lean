/- The law BoundarySends of layer 41: the acts' round, with rules that ask for less. -/
import Derived.Test.YtfcpmapfhgibpaaDoorBoundarySendsH
namespace Go.Proofs.YtfcpmapfhgibpaaDoor
open Go Go.RowKit SX Frm Frn
set_option linter.unusedVariables false
set_option linter.unusedSimpArgs false
set_option maxRecDepth 100000

/-- .. where both Sends have returned k messages. -/
def msgRu2 (x : E) (k i : Nat) : Rule := ⟨[oneF (okX x), isN (sN x) (Int.ofNat k), isN (sN (sX1 x)) (Int.ofNat k)], msgCon x i⟩
theorem msgRu2_ok {ρ : Env} (h : Law ρ.fn) (x : E) {k i : Nat} (hik : i < k) : RuleOk ρ (msgRu2 x k i) := fun hp => msgRu_ok h x hik fun q hq => by
  rcases List.mem_cons.1 hq with rfl | hq
  · exact hp _ (List.mem_cons_self ..)
  · obtain rfl := List.mem_singleton.1 hq
    exact hp _ (List.mem_cons_of_mem _ (List.mem_cons_self ..))
def sndT2 : TmN := ⟨sndT.τ, sndT.m1, sndT.m2, sndT.m3, (List.range 9).map (cntRu sX) ++ (List.range' 1 8).map fun k => msgRu2 sX k 0⟩
def sndD : CutN := ⟨[1, 1, 1, 1, 1, 0, 1, 0], [sndT2]⟩
def sndDs : List CutN := [sndD, sndC2]
theorem leaf_cut {gl : Gl} {endOk : Rs → Bool} {K : Nat} {rs : List Rule} {less : Fs → (Nat → E) → TmN → Bool} (hl : ∀ fs σ, less fs σ sndT2 = less fs σ sndT) : ∀ s : Sp, leafOkN gl sndDs endOk K rs less s = leafOkN gl sndCs endOk K rs less s
  | .done r => rfl
  | .loop p st => by
    have e : (sndD.ts.any fun t => t.τ.quick st && fitR gl K t.τ (withR rs st) && less (withR rs st).facts (t.τ.solve (withR rs st)) t) = sndC.ts.any fun t => t.τ.quick st && fitR gl K t.τ (withR rs st) && less (withR rs st).facts (t.τ.solve (withR rs st)) t := by
      show ((sndT2.τ.quick st && fitR gl K sndT2.τ (withR rs st) && less (withR rs st).facts (sndT2.τ.solve (withR rs st)) sndT2) || false) = _
      rw [hl]
      rfl
    show (((sndD.p == p && sndD.ts.any _) || ((sndC2.p == p && sndC2.ts.any _) || false)) || _) = (((sndC.p == p && sndC.ts.any _) || ((sndC2.p == p && sndC2.ts.any _) || false)) || _)
    rw [e]
    rfl
theorem T.all_eq {α : Type} {f g : α → Bool} (h : ∀ a, f a = g a) (t : T α) : t.all f = t.all g := by rw [funext h]
/-- Which act. -/
def kd (j : Nat) : E := eq0 (.rd 0 3 sI) (litN j)
noncomputable abbrev sndOk2 (c : CutN) (t : TmN) (g : Nat → Value) (p : Fs) : Bool := roundOkN Tryd.prog (tabGl tabs2 0) callL (noKeep 4) 80 sndDs (lawEnd Tryd.prog Tryd.f4) (phSize sndSh + 2) sndCode (p ++ sndAx) c t g
theorem ok_cut {c : CutN} {t : TmN} {g : Nat → Value} {p : Fs} (h : sndOk c t g p = true) : sndOk2 c t g p = true := by
  unfold sndOk roundOkN at h
  unfold sndOk2 roundOkN
  split at h
  · rw [T.all_eq (leaf_cut fun fs σ => rfl)]
    exact h
  · cases h
theorem enter_cut {t : T Sp} {gl : Gl} {endOk : Rs → Bool} {K : Nat} (h : t.all (leafOkN gl sndCs endOk K [] (fun _ _ _ => true)) = true) : t.all (leafOkN gl sndDs endOk K [] (fun _ _ _ => true)) = true := by
  rw [T.all_eq (leaf_cut fun fs σ => rfl)]
  exact h
theorem snd_rules2 {ρ : Env} (hf : Law ρ.fn) {c : CutN} (hc : c ∈ sndDs) {t : TmN} (ht : t ∈ c.ts) : ∀ r ∈ t.rs, RuleOk ρ r := by
  intro r hr
  simp only [sndDs, List.mem_cons, List.not_mem_nil, or_false] at hc
  rcases hc with rfl | rfl
  · obtain rfl : t = sndT2 := by simpa [sndD] using ht
    rcases List.mem_append.1 (show r ∈ (List.range 9).map (cntRu sX) ++ (List.range' 1 8).map (fun k => msgRu2 sX k 0) from hr) with hr | hr
    · obtain ⟨k, _, rfl⟩ := List.mem_map.1 hr
      exact cntRu_ok hf _ _
    · obtain ⟨k, hk, rfl⟩ := List.mem_map.1 hr
      have := List.mem_range'_1.1 hk
      exact msgRu2_ok hf _ (by omega)
  · exact snd_rules hf (c := sndC2) (by simp [sndCs]) ht r hr
end Go.Proofs.YtfcpmapfhgibpaaDoor
