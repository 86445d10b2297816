/- For TopStamps: reading a timestamp back, of both protocols. -/
import Derived.Test.YtedeecnibmgobaaTsB
namespace Go.Proofs.Ytedeecnibmgobaa
open Go Go.RowKit SX
set_option linter.unusedVariables false

def appE (i : Nat) : E := .app 1 0 [.var i]
def dE : E := zad (zmu 4294967296 (zad (.var 5) (zmu (-1) (.var 3)))) (zad (.var 6) (zmu (-1) (.var 4)))
def restE : E := zad (.var 0) (zmu (-1000000000) (.var 5))
def spBack : Spc := fun f args hp fs => match args with
  | [.int .u64 a, .int .u64 b] => if f = 15 ∧ eqF fs a (appE 0) = true ∧ eqF fs b (appE 1) = true then some ⟨.int .i64 dE, hp, fs⟩ else none
  | [.int .i64 a] => if f = 13 ∧ eqF fs a (.var 1) = true then some ⟨.tuple [.int .i64 (.var 3), .int .i64 (.var 4)], hp, fs⟩
    else if f = 5 ∧ eqF fs a (.var 1) = true then some ⟨.int .u64 (appE 1), hp, fs⟩
    else if f = 18 ∧ eqF fs a (.var 6) = true then some ⟨.int .i64 restE, hp, fs⟩ else none
  | _ => none
section
variable {t p : Int} {w w0 : World} {gl : Gl}
theorem spBack_ok (ht : MaxI t) (hp' : MaxI p) (h : -2000000000000000000 ≤ t - p ∧ t - p ≤ 2000000000000000000) : SpecOk Try.prog (envT t p) w0 (fun _ => False) gl spBack := fun f args hp fs o h1 β w1 hh hfs ha hg => by
  have hr := frac_rng t
  have hr' := frac_rng p
  unfold MaxI at ht hp'
  unfold spBack at h1
  split at h1
  · rename_i a b
    split at h1
    · rename_i hc
      obtain ⟨rfl, ca, cb⟩ := hc
      obtain rfl := Option.some.inj h1
      have ea : a.ev (envT t p) = ofV t := eqF_spec hfs ca
      have eb : b.ev (envT t p) = ofV p := eqF_spec hfs cb
      have hd : dE.ev (envT t p) = IntKind.i64.wrap (IntKind.u64.wrap (ofV t - ofV p)) := by
        rw [diff_of p t h]
        show 4294967296 * (t / 1000000000 + -1 * (p / 1000000000)) + (fracV t + -1 * fracV p) = _
        omega
      refine spec_val (w := w1) hh hfs ?_ ?_
      · show (Lit.int .i64 (dE.ev (envT t p))).wf = true
        rw [hd]
        exact wf_wrap _ _
      · show Calls _ _ #[.int .u64 (a.ev (envT t p)), .int .u64 (b.ev (envT t p))] _ _
        rw [ea, eb]
        have := diff_any (w := w1) (of_rng t) (of_rng p)
        rw [← hd] at this
        exact this
    · cases h1
  · rename_i a
    split at h1
    · rename_i hc
      obtain ⟨rfl, ca⟩ := hc
      obtain rfl := Option.some.inj h1
      have ea : a.ev (envT t p) = p := eqF_spec hfs ca
      refine spec_val (w := w1) hh hfs ⟨wfI (by show _ ≤ p / 1000000000 ∧ p / 1000000000 ≤ _; omega), wfI (by show _ ≤ fracV p ∧ fracV p ≤ _; omega), trivial⟩ ?_
      show Calls _ _ #[.int .i64 (a.ev (envT t p))] _ _
      rw [ea]
      exact split_any hp'
    · split at h1
      · rename_i hc
        obtain ⟨rfl, ca⟩ := hc
        obtain rfl := Option.some.inj h1
        have ea : a.ev (envT t p) = p := eqF_spec hfs ca
        refine spec_val (w := w1) hh hfs (wfU (by show 0 ≤ ofV p ∧ ofV p ≤ _; have := of_rng p; omega)) ?_
        show Calls _ _ #[.int .i64 (a.ev (envT t p))] _ _
        rw [ea]
        exact of_any hp'
      · split at h1
        · rename_i hc
          obtain ⟨rfl, ca⟩ := hc
          obtain rfl := Option.some.inj h1
          have ea : a.ev (envT t p) = fracV t := eqF_spec hfs ca
          have er : restE.ev (envT t p) = (1953125 * fracV t + 8388607) / 8388608 := by
            rw [frac_back]
            show t + -1000000000 * (t / 1000000000) = _
            omega
          refine spec_val (w := w1) hh hfs ?_ ?_
          · show (Lit.int .i64 (restE.ev (envT t p))).wf = true
            rw [er, frac_back]
            exact wfI (by omega)
          · show Calls _ _ #[.int .i64 (a.ev (envT t p))] _ _
            rw [ea]
            have := nanos_any (w := w1) hr
            rw [← er] at this
            exact this
        · cases h1
  · cases h1
/-- The instant is read back. -/
theorem time_any (ht : -4000000000000000000 ≤ t ∧ t ≤ 4000000000000000000) (h : -2000000000000000000 ≤ t - p ∧ t - p ≤ 2000000000000000000) :
    Calls Try.prog 7 #[.int .u64 (ofV t), .int .i64 p] w fun e w' => e = .returned (.tuple #[.int .i64 t, .int .i64 0]) ∧ Below w.heap.size w w' :=
  have hr := frac_rng t
  have hr' := frac_rng p
  have ht' : MaxI t := by unfold MaxI; omega
  have hp' : MaxI p := by unfold MaxI; omega
  calls_val (ρ := envT t p) (sp := spBack) (args := [.int .u64 (appE 0), .int .i64 (.var 1)]) (v := .tuple [v0, .int .i64 (.lit 0)])
    (fs0 := bd 0 (-4000000000000000000) 4000000000000000000 ++ (bd 1 (-6000000000000000000) 6000000000000000000 ++ (bd 3 (-6000000001) 6000000000 ++ (bd 4 0 4294967295 ++ (bd 5 (-4000000001) 4000000000 ++ (bd 6 0 4294967295 ++ bdE restE 0 999999999))))))
    (spBack_ok ht' hp' h)
    (fsOk_app (bdE_ok ht) (fsOk_app (bdE_ok (by show _ ≤ p ∧ p ≤ _; omega)) (fsOk_app (bdE_ok (by show _ ≤ p / 1000000000 ∧ p / 1000000000 ≤ _; omega)) (fsOk_app (bdE_ok hr') (fsOk_app (bdE_ok (by show _ ≤ t / 1000000000 ∧ t / 1000000000 ≤ _; omega)) (fsOk_app (bdE_ok hr) (bdE_ok (by
      show 0 ≤ t + -1000000000 * (t / 1000000000) ∧ t + -1000000000 * (t / 1000000000) ≤ _; omega))))))))
    ⟨wfU (of_rng t), wfI hp', trivial⟩ rfl (by kernel_rfl)

/-! ### Package ptime -/
def Late (t : Int) : Prop := 2208988800000000000 ≤ t ∧ t ≤ 4000000000000000000
theorem pof_any (ht : Late t) : Calls Try.prog 8 #[.int .i64 t] w fun e w' => e = .returned (.tuple #[.agg #[.int .i64 (t / 1000000000 - 2208988800), .int .i64 (t % 1000000000)], .int .i64 0]) ∧ Below w.heap.size w w' := by
  unfold Late at ht
  have := calls_val (w := w) (ρ := envT t 0) (sp := noSpec) (f := 8) (args := [v0])
    (v := .tuple [.agg [.int .i64 (.bin .sub .i64 (.bin .quo .i64 (.var 0) (.lit 1000000000)) (.lit 2208988800)), .int .i64 (.bin .rem .i64 (.var 0) (.lit 1000000000))], .int .i64 (.lit 0)])
    (fs0 := bd 0 2208988800000000000 4000000000000000000) noSpec_ok (bdE_ok ht) ⟨wfI (by show _ ≤ t ∧ t ≤ _; omega), trivial⟩ rfl (by kernel_rfl)
  refine this.mono fun e w' ⟨h1, h2⟩ => ⟨?_, h2⟩
  rw [h1]
  obtain ⟨a1, a2⟩ := (tdiv9 t).1 (by omega)
  show Ending.returned (.tuple #[.agg #[.int .i64 (IntKind.i64.wrap (IntKind.i64.wrap (t.tdiv 1000000000) - 2208988800)), .int .i64 (t.tmod 1000000000)], .int .i64 0]) = _
  rw [a1, a2, i64w (x := t / 1000000000) (by omega), i64w (by omega)]
theorem ptime_any (ht : Late t) : Calls Try.prog 11 #[.agg #[.int .i64 (t / 1000000000 - 2208988800), .int .i64 (t % 1000000000)]] w fun e w' => e = .returned (.tuple #[.int .i64 t, .int .i64 0]) ∧ Below w.heap.size w w' := by
  unfold Late at ht
  have e1 : (zad (.var 5) (.lit (-2208988800))).ev (envT t 0) = t / 1000000000 - 2208988800 := rfl
  have e2 : restE.ev (envT t 0) = t % 1000000000 := by
    show t + -1000000000 * (t / 1000000000) = _
    omega
  have := calls_val (w := w) (ρ := envT t 0) (sp := noSpec) (f := 11) (args := [.agg [.int .i64 (zad (.var 5) (.lit (-2208988800))), .int .i64 restE]]) (v := .tuple [v0, .int .i64 (.lit 0)])
    (fs0 := bd 0 2208988800000000000 4000000000000000000 ++ (bd 5 2208988800 4000000000 ++ bdE restE 0 999999999)) noSpec_ok
    (fsOk_app (bdE_ok ht) (fsOk_app (bdE_ok (by show _ ≤ t / 1000000000 ∧ t / 1000000000 ≤ _; omega)) (bdE_ok (by rw [e2]; omega))))
    ⟨⟨wfI (by rw [e1]; omega), wfI (by rw [e2]; omega), trivial⟩, trivial⟩ rfl (by kernel_rfl)
  have e3 : SV.evs (envT t 0) β0 [.agg [.int .i64 (zad (.var 5) (.lit (-2208988800))), .int .i64 restE]] = [.agg #[.int .i64 (t / 1000000000 - 2208988800), .int .i64 (t % 1000000000)]] := by simp only [SV.evs, SV.ev, e1, e2]
  rw [e3] at this
  exact this
end
end Go.Proofs.Ytedeecnibmgobaa
