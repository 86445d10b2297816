/- Layer 38: corrections in nanoseconds, of the program and of the reference. -/
import Derived.Test.YtkjbekloacihaaaR4
namespace Go.Proofs.Ytkjbekloacihaaa
open Go Go.RowKit SX
set_option linter.unusedVariables false
def sumsD : Sums := fun f args =>
  if f = 67 then (match args with
    | [.int .u64 e, .int .u64 (.lit 1)] => some (.tuple [.int .u64 (.lit 0), .int .u64 e])
    | _ => none)
  else if f = 70 then (match args with
    | [.int .u64 (.lit 0), .int .u64 e, .int .u64 (.lit 65536)] => some (.tuple [.int .u64 (.lit 0), .int .u64 (.bin .quo .u64 e (.lit 65536)), .int .u64 (.bin .rem .u64 e (.lit 65536))])
    | _ => none)
  else none
def prodFs : Fs := [(.bin .zrng .u64 (.var 0) (.lit 0), true)]
def prodOk (o : Out) : Bool := match o.v with
  | .tuple [.int .u64 a, .int .u64 b] => eqF o.fs a (.lit 0) && eqF o.fs b (.var 0)
  | _ => false
set_option maxRecDepth 1000000 in
theorem prod_tree : (callF Try.prog [] okF sumsN noKeep 80 30 67 [.int .u64 (.var 0), .int .u64 (.lit 1)] .nil prodFs).all prodOk = true := by kernel_rfl
theorem wfu {x : Int} (h0 : 0 ≤ x) (h1 : x < 18446744073709551616) : (Lit.int .u64 x).wf = true := by
  refine (wf_iff .u64 x).2 ⟨?_, ?_⟩ <;> simp [IntKind.min, IntKind.max, IntKind.bits, IntKind.signed] <;> omega
theorem wfu' {x : Int} (h : (Lit.int .u64 x).wf = true) : 0 ≤ x ∧ x < 18446744073709551616 := by
  have := (wf_iff .u64 x).1 h
  simp [IntKind.min, IntKind.max, IntKind.bits, IntKind.signed] at this
  omega
theorem product_ok {x : Int} (hx : (Lit.int .u64 x).wf = true) (w : World) : Calls Try.prog 67 #[.int .u64 x, .int .u64 1] w fun e w' => e = .returned (.tuple #[.int .u64 0, .int .u64 x]) ∧ Below w.heap.size w w' := by
  have hf : FsOk (envOf names38 [x]) prodFs := fun p hp => by
    obtain rfl : p = _ := List.mem_singleton.1 hp
    have := (wf_iff .u64 x).1 hx
    show (if IntKind.u64.min ≤ x ∧ x ≤ IntKind.u64.max then (1 : Int) else 0) ≠ 0 ↔ true = true
    rw [if_pos this]; simp
  have hr := (callF_run (gl := []) (keep := noKeep) (fuel := 80) (ρ := envOf names38 [x]) (w0 := w) (M := fun _ => False) mixed okF_ok (sums_none _ _ _ _) 30 67 [.int .u64 (.var 0), .int .u64 (.lit 1)] .nil prodFs β0 w (fun v w' => v = .tuple #[.int .u64 0, .int .u64 x] ∧ Below w.heap.size w w') (heap_nil ..) hf
    ⟨hx, (by decide : (Lit.int .u64 1).wf = true), trivial⟩ (fun _ h => by cases h)
    (T.holds_mono (fun o ho β' w' _ _ _ hh hfo hv => ?_) (T.all_holds prod_tree))).2
  · exact hr.mono fun e w' ⟨v, he, hv, hb⟩ => ⟨by rw [he, hv], hb⟩
  · unfold prodOk at ho
    split at ho
    · rename_i a b hov
      rw [Bool.and_eq_true] at ho
      have e1 := eqF_spec hfo ho.1
      have e2 := eqF_spec hfo ho.2
      rw [hov]
      refine ⟨?_, hh.kept.to_below⟩
      show Value.tuple #[.int .u64 (a.ev _), .int .u64 (b.ev _)] = _
      rw [e1, e2]
      rfl
    · cases ho
theorem sumsD_ok (ρ : Env) (w0 : World) : SumsOk Try.prog ρ w0 (fun _ => False) sumsD := fun f args v h n β ha => by
  unfold sumsD at h
  split at h
  · rename_i hf
    subst hf
    split at h
    · rename_i e
      obtain rfl := Option.some.inj h
      have hx : (Lit.int .u64 (e.ev ρ)).wf = true := ha.1
      exact ⟨⟨(by decide : (Lit.int .u64 0).wf = true), hx, trivial⟩, fun w _ => product_ok hx w⟩
    · cases h
  · split at h
    · rename_i hf
      subst hf
      split at h
      · rename_i e
        obtain rfl := Option.some.inj h
        have hx : (Lit.int .u64 (e.ev ρ)).wf = true := ha.2.1
        obtain ⟨h0, h1⟩ := wfu' hx
        have eq1 : (E.bin .quo .u64 e (.lit 65536)).ev ρ = e.ev ρ / 65536 := by
          show IntKind.u64.wrap ((e.ev ρ).tdiv 65536) = _
          rw [w64, Int.tdiv_eq_ediv_of_nonneg h0]
          omega
        have eq2 : (E.bin .rem .u64 e (.lit 65536)).ev ρ = e.ev ρ % 65536 := Int.tmod_eq_emod_of_nonneg h0
        refine ⟨⟨(by decide : (Lit.int .u64 0).wf = true), ?_, ?_, trivial⟩, fun w _ => ?_⟩
        · show (Lit.int .u64 _).wf = true
          rw [eq1]; exact wfu (by omega) (by omega)
        · show (Lit.int .u64 _).wf = true
          rw [eq2]; exact wfu (by omega) (by omega)
        · have := divide_ok h0 h1 w
          show Calls Try.prog 70 #[.int .u64 0, .int .u64 (e.ev ρ), .int .u64 65536] w fun x w' => x = .returned (.tuple #[.int .u64 0, .int .u64 ((E.bin .quo .u64 e (.lit 65536)).ev ρ), .int .u64 ((E.bin .rem .u64 e (.lit 65536)).ev ρ)]) ∧ Below w.heap.size w w'
          rw [eq1, eq2]; exact this
      · cases h
    · cases h
end Go.Proofs.Ytkjbekloacihaaa
