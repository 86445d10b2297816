/- Loops with an invariant in Lean: one template, and what its variables meet. Of no program. -/
import Derived.Test.YthbfjnmdjehljaaDoorSxL
namespace Go.Proofs.YthbfjnmdjehljaaDoor.SX
open Go Go.RowKit
set_option linter.unusedVariables false
set_option linter.unusedSimpArgs false
section
variable {P : Program} {ρ : Env} {w0 : World} {M : Nat → Prop} {gl : Gl} {call : Caller} {keep : Nat → List Nat} {fuel : Nat} {C : Code} {Q : Exit → Act → World → Prop}
/-- What a round comes to, as it is seen: back at the loop (is it the template? what are its variables?), or out of it. -/
inductive Vw where
  | back (ok : Bool) (vs : List E)
  | out (x : Ex) (v : Option SV)
  | lost
def vwOf (P : Program) (fn : Func) (gl : Gl) (τ : Tm) (n : Nat) : Lf → Vw
  | .back st => .back (τ.fit gl (τ.solve st) st) ((List.range n).map (τ.solve st))
  | .fwd (.done r) => .out r.x ((resultsS P r.st fn.results.toList).map packS)
  | .fwd (.loop _ _) => .lost
/-- The variables of a template below n; the others stay. -/
def envSet (ρ : Env) (n : Nat) (vs : List Int) : Env := ⟨fun i => if i < n then vs.getD i 0 else ρ.v i, ρ.arr, ρ.fn⟩
theorem rounds_le {b : Code} {Q : Exit → Act → World → Prop} : ∀ {n m : Nat} {a : Act} {w : World}, n ≤ m → Code.rounds P b Q n a w → Code.rounds P b Q m a w
  | 0, _, _, _, _, h => h.elim
  | n + 1, 0, _, _, hnm, _ => by omega
  | n + 1, m + 1, a, w, hnm, h => by
    rw [rounds_succ] at *
    exact wp_mono h fun e a w he => by
      cases e with
      | normal => exact rounds_le (by omega) (show Code.rounds P b Q n a w from he)
      | exit id => exact he
      | goto l => exact he
      | ret => exact he
      | panic c => exact he
      | outgrown => exact he
theorem loop_inv {fn : Func} {n : Nat} (hc : ∀ ρ', SameEnv ρ ρ' → CallOk P ρ' w0 M gl call) (hm : P.follows .mixedOrders = true) {p : Path} {b : Code} (hb : bodyAt C p = some b) {τ : Tm} (I : Env → Nat → Prop) (R : Env → SV → Prop)
    (hround : ∀ ρ' m g, SameEnv ρ ρ' → FsOk ρ' (τ.st g).facts → I ρ' m → ((roundT P gl call keep fuel C p b (τ.st g)).map (vwOf P fn gl τ n)).holds ρ' fun v => match v with
      | .back ok vs => ok = true ∧ ∀ σ : Nat → E, (∀ i, i < n → σ i = vs.getD i (.var i)) → ∃ m', m' < m ∧ I (envSub ρ' σ) m'
      | .out (.exit _) _ => False
      | .out _ (some v) => R ρ' v
      | .out _ none => False
      | .lost => False)
    (hend : ∀ ρ' (β : Bm) (r : Rs) (v : SV) (a : Act) (w : World), SameEnv ρ ρ' → Conc ρ' w0 M gl β r.st a w → (∀ id, r.x ≠ .exit id) → (resultsS P r.st fn.results.toList).map packS = some v → R ρ' v → Q r.x.to a w) :
    ∀ (m : Nat) (ρ' : Env) (g : Nat → Value) (β : Bm) (a : Act) (w : World), SameEnv ρ ρ' → I ρ' m → Conc ρ' w0 M gl β (τ.st g) a w → Code.rounds P b (postAt P C p Q) (m + 1) a w := by
  intro m
  induction m using Nat.strongRecOn with
  | _ m ih =>
    intro ρ' g β a w hρ hI hst
    have h := T.holds_map'.1 (hround ρ' m g hρ hst.facts hI)
    unfold roundT at h
    rw [T.holds_bind] at h
    rw [rounds_succ]
    refine execP_run (hc ρ' hρ) hm b β _ a w _ hst (T.holds_mono (fun s hs => ?_) h)
    cases s with
    | loop _ _ => exact hs.elim
    | done r =>
      obtain ⟨x, st'⟩ := r
      have fwd : ∀ x', x' = x → x' ≠ .normal → T.holds ρ' ((resumeP P gl call keep fuel C p ⟨x', st'⟩).map Lf.fwd) (fun lf => match vwOf P fn gl τ n lf with
          | .back ok vs => ok = true ∧ ∀ σ : Nat → E, (∀ i, i < n → σ i = vs.getD i (.var i)) → ∃ m', m' < m ∧ I (envSub ρ' σ) m'
          | .out (.exit _) _ => False
          | .out _ (some v) => R ρ' v
          | .out _ none => False
          | .lost => False) → Ends ρ' w0 M gl β (τ.st g).hp (Exit.then (Code.rounds P b (postAt P C p Q) m) (postAt P C p Q)) ⟨x', st'⟩ := fun x' hx' hne hs => by
        intro β' a' w' hx hl hss hc'
        rw [T.holds_map'] at hs
        have := resumeP_run (hc ρ' hρ) hm C p β' ⟨x', st'⟩ a' w' Q hc' (T.holds_mono (fun s' hs' => ?_) hs)
        · cases x' with
          | normal => exact absurd rfl hne
          | exit id => exact this
          | ret => exact this
        · cases s' with
          | loop _ _ => exact hs'.elim
          | done r' =>
            intro β2 a2 w2 _ _ _ hc2
            obtain ⟨y, st2⟩ := r'
            cases hv : (resultsS P st2 fn.results.toList).map packS with
            | none =>
              simp only [vwOf, hv] at hs'
              cases y <;> exact hs'.elim
            | some v =>
              simp only [vwOf, hv] at hs'
              cases y with
              | exit id => exact hs'.elim
              | normal => exact hend ρ' β2 ⟨.normal, st2⟩ v a2 w2 hρ hc2 (fun id h => by cases h) hv hs'
              | ret => exact hend ρ' β2 ⟨.ret, st2⟩ v a2 w2 hρ hc2 (fun id h => by cases h) hv hs'
      cases x with
      | normal =>
        intro β' a' w' hx hl hss hc'
        obtain ⟨hfit, hI'⟩ : τ.fit gl (τ.solve st') st' = true ∧ ∀ σ : Nat → E, (∀ i, i < n → σ i = ((List.range n).map (τ.solve st')).getD i (.var i)) → ∃ m', m' < m ∧ I (envSub ρ' σ) m' := hs
        obtain ⟨m', hlt, hi⟩ := hI' (τ.solve st') (fun i hi => by simp [hi])
        have hc2 := Tm.fit_run hc' hfit
        have := ih m' hlt _ _ _ a' w' (hρ.sub _) hi hc2
        show Code.rounds P b (postAt P C p Q) m a' w'
        exact rounds_le (by omega) this
      | exit id => exact fwd (.exit id) rfl (by intro h; cases h) hs
      | ret => exact fwd .ret rfl (by intro h; cases h) hs
end
end Go.Proofs.YthbfjnmdjehljaaDoor.SX
