/- For TopStamps: what the functions of packages fixed, stamp and ptime come to. -/
import Derived.Test.YtedeecnibmgobaaOktops
import Derived.Test.YtedeecnibmgobaaMg
namespace Go.Proofs.Ytedeecnibmgobaa
open Go Go.RowKit SX
set_option linter.unusedVariables false

def noKeep : FuncId → Nat → List Nat := fun _ _ => []
theorem own : ownKnob Try.prog.godebug = none := by kernel_rfl
theorem laidOut : laidOutB Try.prog = true := by kernel_rfl
def i1 : Sh := .one (.int .i64)
/-! ### Calls whose ways all come to one value -/
def wantV (v : SV) (o : Out) : Bool := SV.fit o.fs (fun i => .var i) id o.hp.n v o.v
section
variable {ρ : Env} {w w0 : World}
theorem calls_val {sp : Spc} (hsp : SpecOk Try.prog ρ w (fun _ => False) [] sp) {f : FuncId} {args : List SV} {fs0 : Fs} {v : SV} (hfs : FsOk ρ fs0) (hargs : SV.oks ρ 0 args) (hfl : v.flat = true)
    (h : (callG Try.prog [] okF sp noKeep 80 30 f args .nil fs0).all (wantV v) = true) : Calls Try.prog f (SV.evs ρ β0 args).toArray w fun e w' => e = .returned (v.ev ρ β0) ∧ Below w.heap.size w w' := by
  refine ((callG_run (gl := []) (keep := noKeep) (fuel := 80) mixed okF_ok hsp 30 f args .nil fs0 β0 w (fun x w' => x = v.ev ρ β0 ∧ Below w.heap.size w w') (heap_nil ..) hfs hargs (fun _ h => by cases h)
    (T.holds_mono (fun o ho β' w' _ _ _ hh hf _ => ?_) (T.all_holds h))).2).mono fun e w' ⟨x, he, hx, hb⟩ => ⟨by rw [he, hx], hb⟩
  obtain ⟨e1, e2⟩ := SV.fit_spec (β := β') (m := o.hp.n) hf _ _ ho
  refine ⟨?_, hh.kept.to_below⟩
  rw [e1, SV.ev_flat β0 (fun k => β' (id k)) v hfl]
  rfl
/-- A call that makes new memory alone, and returns v. -/
theorem spec_val {f : FuncId} {args : List SV} {hp : Hp} {fs : Fs} {v : SV} {β : Bm} (hh : Heap ρ w0 (fun _ => False) β hp w) (hfs : FsOk ρ fs) (hok : v.ok ρ hp.n)
    (h : Calls Try.prog f (SV.evs ρ β args).toArray w fun e w' => e = .returned (v.ev ρ β) ∧ Below w.heap.size w w') :
    Calls Try.prog f (SV.evs ρ β args).toArray w fun e w' => ∃ β', Ext hp.n β β' ∧ hp.n ≤ (⟨v, hp, fs⟩ : Out).hp.n ∧ Stay hp (⟨v, hp, fs⟩ : Out).hp ∧ Heap ρ w0 (fun _ => False) β' (⟨v, hp, fs⟩ : Out).hp w' ∧ FsOk ρ (⟨v, hp, fs⟩ : Out).fs ∧ (⟨v, hp, fs⟩ : Out).v.ok ρ (⟨v, hp, fs⟩ : Out).hp.n ∧ e = .returned ((⟨v, hp, fs⟩ : Out).v.ev ρ β') :=
  h.mono fun e w' ⟨he, hb⟩ => ⟨β, Ext.refl _ _, Nat.le_refl _, Stay.refl _, hh.below hb, hfs, hok, he⟩
theorem fsOk_nil : FsOk ρ [] ↔ True := ⟨fun _ => trivial, fun _ p hp => by cases hp⟩
theorem fsOk_cons {c : E} {b : Bool} {l : Fs} : FsOk ρ ((c, b) :: l) ↔ (c.ev ρ ≠ 0 ↔ b = true) ∧ FsOk ρ l :=
  ⟨fun h => ⟨h (c, b) (List.mem_cons_self ..), fun p hp => h p (List.mem_cons_of_mem _ hp)⟩, fun h p hp => by
    rcases List.mem_cons.1 hp with rfl | hp
    · exact h.1
    · exact h.2 p hp⟩
def lt0 (a b : E) : E := .bin .lt .i64 a b
theorem lt0_ev (a b : E) : (lt0 a b).ev ρ ≠ 0 ↔ a.ev ρ < b.ev ρ := by
  show (if a.ev ρ < b.ev ρ then (1 : Int) else 0) ≠ 0 ↔ _
  split <;> simp [*]
end
def bdE (e : E) (lo hi : Int) : Fs := [(lt0 e (.lit lo), false), (lt0 (.lit hi) e, false)]
def bd (i : Nat) (lo hi : Int) : Fs := bdE (.var i) lo hi
theorem bdE_ok {ρ : Env} {e : E} {lo hi : Int} (h : lo ≤ e.ev ρ ∧ e.ev ρ ≤ hi) : FsOk ρ (bdE e lo hi) := by
  unfold bdE
  rw [fsOk_cons, fsOk_cons, fsOk_nil, lt0_ev, lt0_ev]
  have e1 : (E.lit lo).ev ρ = lo := rfl
  have e2 : (E.lit hi).ev ρ = hi := rfl
  simp only [Bool.false_eq_true, iff_false, and_true, e1, e2]
  omega
theorem wfI {n : Int} (h : -9223372036854775808 ≤ n ∧ n ≤ 9223372036854775807) : (Lit.int .i64 n).wf = true := (wf_iff .i64 n).2 (by
  have i1 : IntKind.i64.min = -9223372036854775808 := by decide
  have i2 : IntKind.i64.max = 9223372036854775807 := by decide
  rw [i1, i2]; exact h)
theorem wfU {n : Int} (h : 0 ≤ n ∧ n ≤ 18446744073709551615) : (Lit.int .u64 n).wf = true := (wf_iff .u64 n).2 (by
  have i1 : IntKind.u64.min = 0 := by decide
  have i2 : IntKind.u64.max = 18446744073709551615 := by decide
  rw [i1, i2]; exact h)
def zfd (a : E) : E := .bin .zfdiv .i64 a (.lit 1000000000)
def zmu (c : Int) (a : E) : E := .bin .zmul .i64 (.lit c) a
def zad (a b : E) : E := .bin .zadd .i64 a b
def lit9 : SV := .int .i64 (.lit 1000000000)
def v0 : SV := .int .i64 (.var 0)

/-! ### Whole seconds, rounded down -/
def retI (t : T Out) : T SV := t.map fun o => o.v
def qE : E := .bin .quo .i64 (.var 0) (.lit 1000000000)
def rE : E := .bin .rem .i64 (.var 0) (.lit 1000000000)
def flOk (e : E) : T SV := .ok (.tuple [.int .i64 e, .bool (.lit 1)])
def flB : T SV := .br (.bin .eq .i64 rE (.lit 0)) (flOk qE) (.br (.bin .lt .i64 rE (.lit 0)) (flOk (.bin .sub .i64 qE (.lit 1))) (flOk qE))
theorem floor_tree : retI (callF Try.prog [] okF (fun _ _ => none) noKeep 80 30 22 [v0, lit9] .nil []) = .br (.bin .eq .i64 (.var 0) (.lit (-9223372036854775808))) flB flB := by kernel_rfl
theorem i64w {x : Int} (h : -9223372036854775808 ≤ x ∧ x ≤ 9223372036854775807) : IntKind.i64.wrap x = x := wrap_fit ⟨by simpa [IntKind.min, IntKind.bits, IntKind.signed] using h.1, by simpa [IntKind.max, IntKind.bits, IntKind.signed] using h.2⟩
theorem tdiv9 (t : Int) : (0 ≤ t → t.tdiv 1000000000 = t / 1000000000 ∧ t.tmod 1000000000 = t % 1000000000) ∧ (t < 0 → t.tdiv 1000000000 = -((-t) / 1000000000) ∧ t.tmod 1000000000 = -((-t) % 1000000000)) := by
  refine ⟨fun h => ⟨Int.tdiv_eq_ediv_of_nonneg h, Int.tmod_eq_emod_of_nonneg h⟩, fun h => ?_⟩
  have h0 : 0 ≤ -t := by omega
  have e1 : t.tdiv 1000000000 = -((-t).tdiv 1000000000) := by rw [Int.neg_tdiv, Int.neg_neg]
  have e2 : t.tmod 1000000000 = -((-t).tmod 1000000000) := by rw [Int.neg_tmod, Int.neg_neg]
  rw [e1, e2, Int.tdiv_eq_ediv_of_nonneg h0, Int.tmod_eq_emod_of_nonneg h0]
  exact ⟨rfl, rfl⟩
theorem floor_any (t : Int) (ht : -9223372036854775808 ≤ t ∧ t ≤ 9223372036854775807) (w : World) : Calls Try.prog 22 #[.int .i64 t, .int .i64 1000000000] w fun e w' => e = .returned (.tuple #[.int .i64 (t / 1000000000), .bool true]) ∧ Below w.heap.size w w' := by
  obtain ⟨p1, p2⟩ := tdiv9 t
  have hq : -9223372036854775808 ≤ t.tdiv 1000000000 ∧ t.tdiv 1000000000 ≤ 9223372036854775807 := by
    by_cases h : 0 ≤ t
    · have := (p1 h).1; omega
    · have := (p2 (by omega)).1; omega
  have eq : qE.ev (envOf (fun _ _ _ => 0) [t]) = t.tdiv 1000000000 := by
    show IntKind.i64.wrap (t.tdiv 1000000000) = _
    exact i64w hq
  have er : rE.ev (envOf (fun _ _ _ => 0) [t]) = t.tmod 1000000000 := rfl
  have fin : ∀ e : E, e.ev (envOf (fun _ _ _ => 0) [t]) = t / 1000000000 → (flOk e).holds (envOf (fun _ _ _ => 0) [t]) fun x => x.flat = true ∧ x.ev (envOf (fun _ _ _ => 0) [t]) β0 = .tuple #[.int .i64 (t / 1000000000), .bool true] := fun e he => by
    refine ⟨rfl, ?_⟩
    show Value.tuple #[.int .i64 (e.ev _), .bool true] = _
    rw [he]
  have hB : flB.holds (envOf (fun _ _ _ => 0) [t]) fun x => x.flat = true ∧ x.ev (envOf (fun _ _ _ => 0) [t]) β0 = .tuple #[.int .i64 (t / 1000000000), .bool true] := by
    unfold flB
    have c1 : (E.bin .eq .i64 rE (.lit 0)).ev (envOf (fun _ _ _ => 0) [t]) = if t.tmod 1000000000 = 0 then 1 else 0 := by show (if rE.ev _ = 0 then (1 : Int) else 0) = _; rw [er]
    have c2 : (E.bin .lt .i64 rE (.lit 0)).ev (envOf (fun _ _ _ => 0) [t]) = if t.tmod 1000000000 < 0 then 1 else 0 := by show (if rE.ev _ < 0 then (1 : Int) else 0) = _; rw [er]
    have c3 : (E.bin .sub .i64 qE (.lit 1)).ev (envOf (fun _ _ _ => 0) [t]) = IntKind.i64.wrap (t.tdiv 1000000000 - 1) := by show IntKind.i64.wrap (qE.ev _ - 1) = _; rw [eq]
    simp only [T.holds, c1, c2]
    by_cases h : 0 ≤ t
    · obtain ⟨a1, a2⟩ := p1 h
      rw [a2]
      refine ⟨fun _ => fin _ (by rw [eq, a1]), fun _ => ⟨fun h2 => ?_, fun _ => fin _ (by rw [eq, a1])⟩⟩
      rw [if_neg (by omega)] at h2
      exact absurd rfl h2
    · obtain ⟨a1, a2⟩ := p2 (by omega)
      rw [a2]
      refine ⟨fun h1 => fin _ ?_, fun h1 => ⟨fun h2 => fin _ ?_, fun h2 => ?_⟩⟩
      · rw [eq, a1]
        split at h1
        · omega
        · exact absurd rfl h1
      · rw [c3, a1]
        split at h2
        · rw [i64w (by omega)]; omega
        · exact absurd rfl h2
      · split at h1
        · cases h1
        · split at h2
          · cases h2
          · omega
  have hT : (retI (callF Try.prog [] okF (fun _ _ => none) noKeep 80 30 22 [v0, lit9] .nil [])).holds (envOf (fun _ _ _ => 0) [t]) fun x => x.flat = true ∧ x.ev (envOf (fun _ _ _ => 0) [t]) β0 = .tuple #[.int .i64 (t / 1000000000), .bool true] := by
    rw [floor_tree]
    exact ⟨fun _ => hB, fun _ => hB⟩
  have := calls_pure (P := Try.prog) (ρ := envOf (fun _ _ _ => 0) [t]) (w := w) (keep := noKeep) (fuel := 80) (n := 30) mixed okF_ok (sums_none _ _ _ _) (f := 22) (args := [v0, lit9]) ⟨wfI ht, (by decide : (Lit.int .i64 1000000000).wf = true), trivial⟩ (R := fun v => v = .tuple #[.int .i64 (t / 1000000000), .bool true]) (T.holds_map.1 hT)
  exact this.mono fun e w' ⟨v, h1, h2, h3⟩ => ⟨by rw [h1, h2], h3⟩
end Go.Proofs.Ytedeecnibmgobaa
