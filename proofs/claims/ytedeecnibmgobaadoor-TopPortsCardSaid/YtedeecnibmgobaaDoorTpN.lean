/- port.Next as its plain law, in a seat that has no more of package port. -/
import Derived.Test.YtedeecnibmgobaaDoorTpA
import Derived.Test.YtedeecnibmgobaaDoorPortLaw
import Derived.Deep.Light
import Derived.Lib.Hide
import Derived.WalkLawsBesides
import Derived.Outline
namespace Go.Proofs.YtedeecnibmgobaaDoor
set_option linter.unusedVariables false
open Go Go.RowKit SX

theorem known_any (n : Int) (w : World) : Calls Tryd.prog 15 #[.int .i64 n] w fun e w' => e = .returned (.bool (decide (1 ≤ n ∧ n ≤ 9))) ∧ w = w' := by
  by_cases h1 : 1 ≤ n <;> by_cases h2 : n ≤ 9
  all_goals
    go_enter Tryd.func15, Tryd.ntmps15
    go_wp2
    go_ret
    simp [*]

def PortTab (w : World) : Prop := ∀ i : Nat, i < 170 → w.cell? ⟨0, i, none⟩ = some (.int .i64 (PortLaw.tbl.getD i 0))

theorem next_no (s e : Int) (same : Bool) (w : World) (h : ¬(1 ≤ s ∧ s ≤ 9)) :
    Calls Tryd.prog 6 #[.int .i64 s, .int .i64 e, .bool same] w fun en w' => en = .returned (.int .i64 0) ∧ w = w' := by
  have hk : decide (1 ≤ s ∧ s ≤ 9) = false := by simpa using h
  clear h
  go_enter Tryd.func6, Tryd.ntmps6
  go_wp2_with (go_at_call 15; refine (known_any _ _).mono ?_; rintro en w' ⟨rfl, rfl⟩)
  go_ret
  exact ⟨rfl, rfl⟩
theorem next_none (s e : Int) (same : Bool) (w : World) (h1 : ¬(1 ≤ e ∧ e ≤ 10)) (h2 : ¬ (20 ≤ e ∧ e ≤ 26)) (hs : 1 ≤ s ∧ s ≤ 9) :
    Calls Tryd.prog 6 #[.int .i64 s, .int .i64 e, .bool same] w fun en w' => en = .returned (.int .i64 0) ∧ w = w' := by
  have hk : decide (1 ≤ s ∧ s ≤ 9) = true := by simpa using hs
  by_cases h3 : 1 ≤ e <;> by_cases h4 : 20 ≤ e
  all_goals
    go_enter Tryd.func6, Tryd.ntmps6
    go_wp2_with (go_at_call 15; refine (known_any _ _).mono ?_; rintro en w' ⟨rfl, rfl⟩)
    all_goals (go_ret; exact ⟨rfl, rfl⟩)
theorem next_ev (s e : Int) (same : Bool) (v : Int) (w : World) (hs : 1 ≤ s ∧ s ≤ 9) (he : 1 ≤ e) (he2 : e ≤ 10)
    (hc : w.cell? ⟨0, (e.toNat - 1) * 10 + s.toNat, none⟩ = some (.int .i64 v)) :
    Calls Tryd.prog 6 #[.int .i64 s, .int .i64 e, .bool same] w fun en w' => en = .returned (.int .i64 v) ∧ w = w' := by
  have hk : decide (1 ≤ s ∧ s ≤ 9) = true := by simpa using hs
  have hne : (e - 1 == 16) = false := by simp; omega
  have hs1 := hs.1
  have hs2 := hs.2
  clear hs
  go_enter Tryd.func6, Tryd.ntmps6
  go_wp2_with (go_at_call 15; refine (known_any _ _).mono ?_; rintro en w' ⟨rfl, rfl⟩)
  go_ret
  exact ⟨rfl, rfl⟩
theorem next_code (s e : Int) (same : Bool) (v : Int) (w : World) (hs : 1 ≤ s ∧ s ≤ 9) (he : 20 ≤ e) (he2 : e ≤ 25)
    (hc : w.cell? ⟨0, (e.toNat - 10) * 10 + s.toNat, none⟩ = some (.int .i64 v)) :
    Calls Tryd.prog 6 #[.int .i64 s, .int .i64 e, .bool same] w fun en w' => en = .returned (.int .i64 v) ∧ w = w' := by
  have hk : decide (1 ≤ s ∧ s ≤ 9) = true := by simpa using hs
  have hne : (10 + e - 20 == 16) = false := by simp; omega
  have hs1 := hs.1
  have hs2 := hs.2
  clear hs
  have ho : (10 + e - 20).toNat = e.toNat - 10 := by omega
  go_enter Tryd.func6, Tryd.ntmps6
  go_wp2_with (go_at_call 15; refine (known_any _ _).mono ?_; rintro en w' ⟨rfl, rfl⟩)
  go_ret
  exact ⟨rfl, rfl⟩
theorem next_s1 (s : Int) (same : Bool) (w : World) (hs : 1 ≤ s ∧ s ≤ 9) (hc : PortTab w) :
    Calls Tryd.prog 6 #[.int .i64 s, .int .i64 26, .bool same] w fun en w' => en = .returned (.int .i64 (PortLaw.nxt s 26 same)) ∧ w = w' := by
  rcases PortLaw.cases9 s hs with rfl | rfl | rfl | rfl | rfl | rfl | rfl | rfl | rfl
  all_goals
    have h0 := hc 161 (by omega)
    have h1 := hc 162 (by omega)
    have h2 := hc 163 (by omega)
    have h3 := hc 164 (by omega)
    have h4 := hc 165 (by omega)
    have h5 := hc 166 (by omega)
    have h6 := hc 167 (by omega)
    have h7 := hc 168 (by omega)
    have h8 := hc 169 (by omega)
    clear hc
    cases same
  all_goals
    go_enter Tryd.func6, Tryd.ntmps6
    go_wp2_with (go_at_call 15; refine (known_any _ _).mono ?_; rintro en w' ⟨rfl, rfl⟩)
    go_ret
    exact ⟨rfl, rfl⟩
theorem next_any (s e : Int) (same : Bool) (w : World) (hc : PortTab w) :
    Calls Tryd.prog 6 #[.int .i64 s, .int .i64 e, .bool same] w fun en w' => en = .returned (.int .i64 (PortLaw.nxt s e same)) ∧ w = w' := by
  by_cases hs : 1 ≤ s ∧ s ≤ 9
  · by_cases h1 : 1 ≤ e ∧ e ≤ 10
    · refine (next_ev s e same _ w hs h1.1 h1.2 (hc _ (by omega))).mono fun en w' h => ?_
      simpa [PortLaw.nxt, hs, h1] using h
    · by_cases h2 : 20 ≤ e ∧ e ≤ 26
      · by_cases h3 : e = 26
        · subst h3; exact next_s1 s same w hs hc
        · refine (next_code s e same _ w hs h2.1 (by omega) (hc _ (by omega))).mono fun en w' h => ?_
          simpa [PortLaw.nxt, hs, h1, h2, h3] using h
      · refine (next_none s e same w h1 h2 hs).mono fun en w' h => ?_
        simpa [PortLaw.nxt, hs, h1, h2] using h
  · refine (next_no s e same w hs).mono fun en w' h => ?_
    simpa [PortLaw.nxt, hs] using h
theorem portTab_of {w : World} (h : TabsIn tabs2 w) : PortTab w := fun i hi => h (0, cellsP) (List.mem_cons_of_mem _ (List.mem_cons_self ..)) i _ (by
  have hl : PortLaw.tbl.length = 170 := rfl
  have hc : cellsP = PortLaw.tbl.map (Value.int .i64) := by kernel_rfl
  rw [hc, List.getElem?_map, List.getElem?_eq_getElem (by omega)]
  simp [List.getD, hl, hi])

/-! ### Next as a name -/
def nextE (s e : E) : E := .app 20 0 [s, e]
theorem nextE_ev {ρ : Env} {own : DS} {A : Nat → Nat → Int → Int} {n : Nat} (hf : ρ.fn = namesD own A n) (s e : E) : (nextE s e).ev ρ = PortLaw.nxt (s.ev ρ) (e.ev ρ) false := by
  show ρ.fn 20 0 [s.ev ρ, e.ev ρ] = _
  rw [hf]
  rfl
def spNext : Spc := fun f args hp fs => match args with
  | [.int .i64 s, .int .i64 e, .bool (.lit (.ofNat 0))] => if f = 6 then some ⟨.int .i64 (nextE (canon fs s) (canon fs e)), hp, fs⟩ else none
  | _ => none
theorem spNext_ok {ρ : Env} {own : DS} {A : Nat → Nat → Int → Int} {n : Nat} {w0 : World} {gl : Gl} (hf : ρ.fn = namesD own A n) (ht : TabsIn tabs2 w0) : SpecOk Tryd.prog ρ w0 (fun _ => False) gl spNext := fun f args hp fs o h β w hh hfs ha hg => by
  unfold spNext at h
  split at h
  · rename_i s e
    split at h
    · rename_i hc
      subst hc
      obtain rfl := Option.some.inj h
      have hv : (nextE (canon fs s) (canon fs e)).ev ρ = PortLaw.nxt (s.ev ρ) (e.ev ρ) false := by rw [nextE_ev hf, canon_ev hfs, canon_ev hfs]
      have hr := PortLaw.nxt_range (s.ev ρ) (e.ev ρ) false
      refine (next_any (s.ev ρ) (e.ev ρ) false w (portTab_of (TabsIn.kept ht hh.kept))).mono fun x w' ⟨hx, hw⟩ => ?_
      subst hw
      refine ⟨β, Ext.refl _ _, Nat.le_refl _, Stay.refl _, hh, hfs, ?_, ?_⟩
      · show (Lit.int .i64 ((nextE (canon fs s) (canon fs e)).ev ρ)).wf = true
        rw [hv]
        have i1 : IntKind.i64.min = -9223372036854775808 := by decide
        have i2 : IntKind.i64.max = 9223372036854775807 := by decide
        exact (wf_iff .i64 _).2 (by rw [i1, i2]; omega)
      · rw [hx]
        show Ending.returned (.int .i64 _) = Ending.returned (.int .i64 ((nextE (canon fs s) (canon fs e)).ev ρ))
        rw [hv]
    · cases h
  · cases h
end Go.Proofs.YtedeecnibmgobaaDoor
