/- For TopStamps: what Of, Diff, nanos and Time of package stamp, and Of and Time of package ptime come to. -/
import Derived.Test.YtedeecnibmgobaaTsA
namespace Go.Proofs.Ytedeecnibmgobaa
open Go Go.RowKit SX
set_option linter.unusedVariables false

/-! ### What they are -/
def fracV (t : Int) : Int := t % 1000000000 * 4294967296 / 1000000000
def ofV (t : Int) : Int := (t / 1000000000 * 4294967296 + fracV t) % 18446744073709551616
theorem frac_rng (t : Int) : 0 ≤ fracV t ∧ fracV t ≤ 4294967295 := by unfold fracV; omega
theorem of_rng (t : Int) : 0 ≤ ofV t ∧ ofV t ≤ 18446744073709551615 := by unfold ofV; omega
theorem frac_back (t : Int) : (1953125 * fracV t + 8388607) / 8388608 = t % 1000000000 := by unfold fracV; omega
theorem diff_of (s t : Int) (h : -2000000000000000000 ≤ t - s ∧ t - s ≤ 2000000000000000000) :
    IntKind.i64.wrap (IntKind.u64.wrap (ofV t - ofV s)) = (t / 1000000000 - s / 1000000000) * 4294967296 + (fracV t - fracV s) := by
  have h1 := frac_rng t
  have h2 := frac_rng s
  have hb : -9223372036854775808 ≤ (t / 1000000000 - s / 1000000000) * 4294967296 + (fracV t - fracV s) ∧ (t / 1000000000 - s / 1000000000) * 4294967296 + (fracV t - fracV s) ≤ 9223372036854775807 := by
    have : -2000000001 ≤ t / 1000000000 - s / 1000000000 ∧ t / 1000000000 - s / 1000000000 ≤ 2000000001 := by omega
    omega
  have hu : ∀ x : Int, IntKind.u64.wrap x = x % 18446744073709551616 := fun x => by simp [IntKind.wrap, IntKind.bits, IntKind.signed]
  have hi : ∀ x : Int, IntKind.i64.wrap x = (x + 9223372036854775808) % 18446744073709551616 - 9223372036854775808 := fun x => by
    simp [IntKind.wrap, IntKind.bits, IntKind.signed]
    split <;> omega
  rw [hu, hi]
  unfold ofV
  generalize t / 1000000000 = a at *
  generalize s / 1000000000 = b at *
  generalize fracV t = c at *
  generalize fracV s = d at *
  omega

/-! ### Variables: 0 the instant, 1 the pivot, 3 and 4 its parts, 5, 6, 7 the instant's: whole seconds, units, the rest -/
def nsOf (t p : Int) : List Int := [t, p, 0, p / 1000000000, fracV p, t / 1000000000, fracV t, t % 1000000000]
def F2 : Nat → Nat → List Int → Int := fun f j ns => if f = 1 then ofV (ns.headD 0) else if f = 2 then (if j = 0 then ns.headD 0 / 1000000000 - 2208988800 else ns.headD 0 % 1000000000) else 0
def envT (t p : Int) : Env := envOf F2 (nsOf t p)
def MaxI (t : Int) : Prop := -9223372036854775808 ≤ t ∧ t ≤ 9223372036854775807
def wholeE : E := zad (zmu 1000000000 (.var 5)) (.var 7)
section
variable {t p : Int} {w w0 : World} {gl : Gl}
theorem whole_ev : wholeE.ev (envT t p) = t := by
  show 1000000000 * (t / 1000000000) + t % 1000000000 = t
  omega
def spFloor : Spc := fun f args hp fs => match args with
  | [.int .i64 a, .int .i64 (.lit (.ofNat 1000000000))] => if f = 22 ∧ eqF fs a wholeE = true then some ⟨.tuple [.int .i64 (.var 5), .bool (.lit 1)], hp, fs⟩ else none
  | _ => none
theorem spFloor_ok (ht : MaxI t) : SpecOk Try.prog (envT t p) w0 (fun _ => False) gl spFloor := fun f args hp fs o h β w1 hh hfs ha hg => by
  unfold spFloor at h
  split at h
  · rename_i e
    split at h
    · rename_i hc
      obtain ⟨rfl, hc⟩ := hc
      obtain rfl := Option.some.inj h
      have e2 : e.ev (envT t p) = t := (eqF_spec hfs hc).trans whole_ev
      refine spec_val (w := w1) hh hfs ⟨wfI (by show _ ≤ t / 1000000000 ∧ t / 1000000000 ≤ _; unfold MaxI at ht; omega), trivial, trivial⟩ ?_
      show Calls _ _ #[.int .i64 (e.ev (envT t p)), .int .i64 1000000000] _ _
      rw [e2]
      exact floor_any t ht w1
    · cases h
  · cases h
theorem split_any (ht : MaxI t) : Calls Try.prog 13 #[.int .i64 t] w fun e w' => e = .returned (.tuple #[.int .i64 (t / 1000000000), .int .i64 (fracV t)]) ∧ Below w.heap.size w w' := by
  have := calls_val (args := [.int .i64 wholeE]) (v := .tuple [.int .i64 (.var 5), .int .i64 (zfd (zmu 4294967296 (.var 7)))]) (fs0 := bdE wholeE (-9223372036854775808) 9223372036854775807 ++ (bd 5 (-9300000000) 9300000000 ++ bd 7 0 999999999)) (spFloor_ok (t := t) (p := 0) (w0 := w) (gl := []) ht)
    (fsOk_app (bdE_ok (by rw [whole_ev]; exact ht)) (fsOk_app (bdE_ok (by show _ ≤ t / 1000000000 ∧ t / 1000000000 ≤ _; unfold MaxI at ht; omega)) (bdE_ok (by show _ ≤ t % 1000000000 ∧ t % 1000000000 ≤ _; omega))))
    ⟨wfI (by rw [whole_ev]; exact ht), trivial⟩ rfl (f := 13) (by kernel_rfl)
  have e3 : SV.evs (envT t 0) β0 [.int .i64 wholeE] = [.int .i64 t] := by simp only [SV.evs, SV.ev, whole_ev]
  rw [e3] at this
  refine this.mono fun e w' ⟨h1, h2⟩ => ⟨?_, h2⟩
  rw [h1]
  show Ending.returned (.tuple #[.int .i64 (t / 1000000000), .int .i64 ((4294967296 * (t % 1000000000)).fdiv 1000000000)]) = _
  rw [Int.fdiv_eq_ediv_of_nonneg _ (by decide), Int.mul_comm]
  rfl
def spSplit : Spc := fun f args hp fs => match args with
  | [.int .i64 a] => if f = 13 ∧ eqF fs a (.var 0) = true then some ⟨.tuple [.int .i64 (.var 5), .int .i64 (.var 6)], hp, fs⟩ else none
  | _ => none
theorem spSplit_ok (ht : MaxI t) : SpecOk Try.prog (envT t p) w0 (fun _ => False) gl spSplit := fun f args hp fs o h β w1 hh hfs ha hg => by
  unfold spSplit at h
  split at h
  · rename_i e
    split at h
    · rename_i hc
      obtain ⟨rfl, hc⟩ := hc
      obtain rfl := Option.some.inj h
      have e2 : e.ev (envT t p) = t := eqF_spec hfs hc
      have hr := frac_rng t
      refine spec_val (w := w1) hh hfs ⟨wfI (by show _ ≤ t / 1000000000 ∧ t / 1000000000 ≤ _; unfold MaxI at ht; omega), wfI (by show _ ≤ fracV t ∧ fracV t ≤ _; omega), trivial⟩ ?_
      show Calls _ _ #[.int .i64 (e.ev (envT t p))] _ _
      rw [e2]
      exact split_any ht
    · cases h
  · cases h
def wantOf : SV := .int .u64 (zad (zmu 4294967296 (.var 5)) (zad (.var 6) (zmu (-18446744073709551616) (.bin .zfdiv .i64 (zad (zmu 4294967296 (.var 5)) (.var 6)) (.lit 18446744073709551616)))))
theorem of_any (ht : MaxI t) : Calls Try.prog 5 #[.int .i64 t] w fun e w' => e = .returned (.int .u64 (ofV t)) ∧ Below w.heap.size w w' := by
  have hr := frac_rng t
  have := calls_val (args := [v0]) (v := wantOf) (fs0 := bd 0 (-9223372036854775808) 9223372036854775807 ++ (bd 5 (-9300000000) 9300000000 ++ bd 6 0 4294967295)) (spSplit_ok (t := t) (p := 0) (w0 := w) (gl := []) ht)
    (fsOk_app (bdE_ok ht) (fsOk_app (bdE_ok (by show _ ≤ t / 1000000000 ∧ t / 1000000000 ≤ _; unfold MaxI at ht; omega)) (bdE_ok hr)))
    ⟨wfI ht, trivial⟩ rfl (f := 5) (by kernel_rfl)
  refine this.mono fun e w' ⟨h1, h2⟩ => ⟨?_, h2⟩
  rw [h1]
  show Ending.returned (.int .u64 (4294967296 * (t / 1000000000) + (fracV t + -18446744073709551616 * (4294967296 * (t / 1000000000) + fracV t).fdiv 18446744073709551616))) = _
  rw [Int.fdiv_eq_ediv_of_nonneg _ (by decide)]
  unfold ofV
  congr 2
  omega
theorem diff_any {a b : Int} (ha : 0 ≤ a ∧ a ≤ 18446744073709551615) (hb : 0 ≤ b ∧ b ≤ 18446744073709551615) : Calls Try.prog 15 #[.int .u64 a, .int .u64 b] w fun e w' => e = .returned (.int .i64 (IntKind.i64.wrap (IntKind.u64.wrap (a - b)))) ∧ Below w.heap.size w w' :=
  calls_val (ρ := envOf F2 [a, b]) (sp := noSpec) (args := [.int .u64 (.var 0), .int .u64 (.var 1)]) (v := .int .i64 (.bin .conv .i64 (.bin .sub .u64 (.var 0) (.var 1)) (.lit 0))) (fs0 := []) noSpec_ok (fun _ h => by cases h) ⟨wfU ha, wfU hb, trivial⟩ rfl (by kernel_rfl)
theorem nanos_any {a : Int} (ha : 0 ≤ a ∧ a ≤ 4294967295) : Calls Try.prog 18 #[.int .i64 a] w fun e w' => e = .returned (.int .i64 ((1953125 * a + 8388607) / 8388608)) ∧ Below w.heap.size w w' := by
  have := calls_val (w := w) (ρ := envOf F2 [a]) (sp := noSpec) (f := 18) (args := [v0]) (v := .int .i64 (.bin .zfdiv .i64 (.bin .zadd .i64 (.bin .zmul .i64 (.lit 1953125) (.var 0)) (.lit 8388607)) (.lit 8388608))) (fs0 := bd 0 0 4294967295) noSpec_ok (bdE_ok ha) ⟨wfI (by show _ ≤ a ∧ a ≤ _; omega), trivial⟩ rfl (by kernel_rfl)
  refine this.mono fun e w' ⟨h1, h2⟩ => ⟨?_, h2⟩
  rw [h1]
  show Ending.returned (.int .i64 ((1953125 * a + 8388607).fdiv 8388608)) = _
  rw [Int.fdiv_eq_ediv_of_nonneg _ (by decide)]
end
end Go.Proofs.Ytedeecnibmgobaa
