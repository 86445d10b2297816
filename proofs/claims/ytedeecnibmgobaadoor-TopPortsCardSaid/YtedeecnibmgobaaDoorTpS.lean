/- For TopPorts: what Sends, Uses and Announces come to behind a decision and EvQualify. -/
import Derived.Test.YtedeecnibmgobaaDoorTpN
import Derived.Test.YtedeecnibmgobaaDoorTpD
namespace Go.Proofs.YtedeecnibmgobaaDoor
set_option linter.unusedVariables false
open Go Go.RowKit SX

theorem sends_any (s : Int) (w : World) : Calls Tryd.prog 7 #[.int .i64 s] w fun e w' => e = .returned (.bool (decide (s = 6))) ∧ w = w' := by
  by_cases h : s = 6
  all_goals
    go_enter Tryd.func7, Tryd.ntmps7
    go_wp2
    go_ret
    simp [*]
theorem uses_any (s : Int) (w : World) : Calls Tryd.prog 9 #[.int .i64 s] w fun e w' => e = .returned (.bool (decide (s = 8 ∨ s = 9))) ∧ w = w' := by
  by_cases h : s = 8 <;> by_cases h2 : s = 9
  all_goals
    go_enter Tryd.func9, Tryd.ntmps9
    go_wp2
    go_ret
    simp [*]
theorem announces_any (c : Int) (w : World) : Calls Tryd.prog 8 #[.int .i64 c] w fun e w' => e = .returned (.bool (decide (c = 1 ∨ c = 2 ∨ c = 3))) ∧ w = w' := by
  by_cases h : c = 1 <;> by_cases h2 : c = 2 <;> by_cases h3 : c = 3
  all_goals
    go_enter Tryd.func8, Tryd.ntmps8
    go_wp2
    go_ret
    simp [*]
theorem nn_code (s c : Int) (hs : 4 ≤ s ∧ s ≤ 9) (hc : 1 ≤ c ∧ c ≤ 6) : PortLaw.nxt (PortLaw.nxt s (c + 20) false) 8 false = if c ≤ 3 then 6 else if c ≤ 5 then 7 else 8 := by
  obtain ⟨e, he⟩ : ∃ e, e = c + 20 := ⟨_, rfl⟩
  obtain rfl : c = e - 20 := by omega
  rcases PortLaw.casesC e (by omega) with rfl | rfl | rfl | rfl | rfl | rfl | rfl <;>
  rcases PortLaw.cases9 s (by omega) with rfl | rfl | rfl | rfl | rfl | rfl | rfl | rfl | rfl <;> first | (exfalso; omega) | decide

def annE (c : E) : E := .app 21 0 [c]
theorem annE_ev {ρ : Env} {own : DS} {A : Nat → Nat → Int → Int} {n : Nat} (hf : ρ.fn = namesD own A n) (c : E) : (annE c).ev ρ ≠ 0 ↔ (c.ev ρ = 1 ∨ c.ev ρ = 2 ∨ c.ev ρ = 3) := by
  show ρ.fn 21 0 [c.ev ρ] ≠ 0 ↔ _
  rw [hf]
  show (if c.ev ρ = 1 ∨ c.ev ρ = 2 ∨ c.ev ρ = 3 then (1 : Int) else 0) ≠ 0 ↔ _
  split <;> simp [*]
/-- A code behind its event. -/
def toCode : E → Option E
  | .bin .zadd _ c (.lit (.ofNat 20)) => some c
  | .lit n => some (.lit (n - 20))
  | _ => none
theorem toCode_ev {ρ : Env} {e c : E} (h : toCode e = some c) : e.ev ρ = c.ev ρ + 20 := by
  unfold toCode at h
  split at h
  · obtain rfl := Option.some.inj h
    rfl
  · obtain rfl := Option.some.inj h
    rename_i n
    show n = (n - 20) + 20
    omega
  · cases h
def isCode : E → Bool
  | .app 11 0 [.lit (.ofNat i)] => true
  | .lit n => decide (1 ≤ n ∧ n ≤ 6)
  | _ => false
theorem isCode_ev {ρ : Env} {own : DS} {A : Nat → Nat → Int → Int} {n : Nat} (hf : ρ.fn = namesD own A n) {c : E} (h : isCode c = true) : 1 ≤ c.ev ρ ∧ c.ev ρ ≤ 6 := by
  unfold isCode at h
  split at h
  · rename_i i
    have := codeE_ev hf i
    have hr := DcLaw.code_rng (own := own) (has := hasA A) (set := setA A) (n := n) i
    show 1 ≤ (codeE i).ev ρ ∧ (codeE i).ev ρ ≤ 6
    rw [this]
    omega
  · exact of_decide_eq_true h
  · cases h
def nnArg : E → Option E
  | .app 20 0 [.app 20 0 [.var 11, x], .lit (.ofNat 8)] => match toCode x with
    | some c => if isCode c = true then some c else none
    | none => none
  | _ => none
theorem nnArg_ev {ρ : Env} {own : DS} {A : Nat → Nat → Int → Int} {n : Nat} (hf : ρ.fn = namesD own A n) (hs : 4 ≤ ρ.v 11 ∧ ρ.v 11 ≤ 9) {e c : E} (h : nnArg e = some c) :
    (1 ≤ c.ev ρ ∧ c.ev ρ ≤ 6) ∧ e.ev ρ = if c.ev ρ ≤ 3 then 6 else if c.ev ρ ≤ 5 then 7 else 8 := by
  unfold nnArg at h
  split at h
  · rename_i x
    split at h
    · rename_i c' hc
      split at h
      · rename_i hi
        obtain rfl := Option.some.inj h
        have h1 := isCode_ev hf hi
        refine ⟨h1, ?_⟩
        have e1 := nextE_ev (ρ := ρ) hf (nextE (.var 11) x) (.lit 8)
        have e2 := nextE_ev (ρ := ρ) hf (.var 11) x
        have e3 := toCode_ev (ρ := ρ) hc
        have e4 := nn_code (ρ.v 11) (c'.ev ρ) hs h1
        rw [e2, e3] at e1
        exact e1.trans e4
      · cases h
    · cases h
  · cases h
def spPort : Spc := fun f args hp fs => match args with
  | [.int .i64 e] =>
    if f = 8 then some ⟨.bool (annE (canon fs e)), hp, fs⟩
    else match nnArg (canon fs e) with
      | some c => if f = 7 then some ⟨.bool (annE c), hp, fs⟩ else if f = 9 then some ⟨.bool (mk .eq .i64 c (.lit 6)), hp, fs⟩ else none
      | none => none
  | _ => none
theorem spPort_ok {ρ : Env} {own : DS} {A : Nat → Nat → Int → Int} {n : Nat} {w0 : World} {gl : Gl} (hf : ρ.fn = namesD own A n) (hs : 4 ≤ ρ.v 11 ∧ ρ.v 11 ≤ 9) : SpecOk Tryd.prog ρ w0 (fun _ => False) gl spPort := fun f args hp fs o h β w hh hfs ha hg => by
  have fin : ∀ (e c : E) (q : Bool), o = ⟨.bool c, hp, fs⟩ → args = [.int .i64 e] → (c.ev ρ ≠ 0 ↔ q = true) → (Calls Tryd.prog f #[.int .i64 (e.ev ρ)] w fun x w' => x = .returned (.bool q) ∧ w = w') →
      Calls Tryd.prog f (SV.evs ρ β args).toArray w fun x w' => ∃ β', Ext hp.n β β' ∧ hp.n ≤ o.hp.n ∧ Stay hp o.hp ∧ Heap ρ w0 (fun _ => False) β' o.hp w' ∧ FsOk ρ o.fs ∧ o.v.ok ρ o.hp.n ∧ x = .returned (o.v.ev ρ β') := fun e c q ho hargs hq hc => by
    subst ho
    subst hargs
    refine hc.mono fun x w' ⟨hx, hw⟩ => ?_
    subst hw
    refine ⟨β, Ext.refl _ _, Nat.le_refl _, Stay.refl _, hh, hfs, trivial, ?_⟩
    rw [hx]
    show Ending.returned (.bool q) = Ending.returned (.bool (decide (c.ev ρ ≠ 0)))
    congr 2
    cases q
    · exact (decide_eq_false (fun hc => Bool.noConfusion (hq.1 hc))).symm
    · exact (decide_eq_true (hq.2 rfl)).symm
  unfold spPort at h
  split at h
  · rename_i e
    split at h
    · rename_i hfa
      subst hfa
      refine fin e (annE (canon fs e)) _ (Option.some.inj h).symm rfl ?_ (announces_any (e.ev ρ) w)
      rw [annE_ev hf, canon_ev hfs, decide_eq_true_iff]
    · split at h
      · rename_i c hc
        obtain ⟨h1, h2⟩ := nnArg_ev hf hs hc
        rw [canon_ev hfs] at h2
        split at h
        · rename_i hfa
          subst hfa
          refine fin e (annE c) _ (Option.some.inj h).symm rfl ?_ (sends_any (e.ev ρ) w)
          rw [annE_ev hf, h2, decide_eq_true_iff]
          split
          · omega
          · split <;> omega
        · split at h
          · rename_i hfa
            subst hfa
            refine fin e (mk .eq .i64 c (.lit 6)) _ (Option.some.inj h).symm rfl ?_ (uses_any (e.ev ρ) w)
            rw [mk_ev, h2, decide_eq_true_iff]
            show (if c.ev ρ = 6 then (1 : Int) else 0) ≠ 0 ↔ _
            split <;> split <;> first | omega | (split <;> omega)
          · cases h
      · cases h
  · cases h
end Go.Proofs.YtedeecnibmgobaaDoor
