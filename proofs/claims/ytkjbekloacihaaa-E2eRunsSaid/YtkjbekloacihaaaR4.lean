/- Layer 38: the reference's division bit by bit, by 65536. -/
import Derived.Test.YtkjbekloacihaaaR3
import Derived.Test.YtkjbekloacihaaaSxH
import Derived.Test.YtkjbekloacihaaaSxS
namespace Go.Proofs.Ytkjbekloacihaaa
open Go Go.RowKit SX
set_option linter.unusedVariables false
def dvU (i : Nat) : SV := .int .u64 (.var i)
def divTm : Tm := ⟨54, [(0, dvU 0), (1, dvU 1), (2, .int .u64 (.lit 65536)), (9, dvU 2), (10, dvU 3), (11, dvU 4), (12, .int .i64 (.var 5))], [], [(.bin .lt .i64 (.var 4) (.lit 65536), true), (.bin .lt .i64 (.lit 128) (.var 5), false), (.bin .lt .i64 (.var 5) (.lit 0), false)]⟩
noncomputable def divC : Code := (Try.f70.body).getD .skip
noncomputable def divCall : Caller := callF Try.prog [] okF sumsN noKeep 80 30
def divP : Path := [1, 1, 0, 1, 0]
noncomputable def divB : Code := (bodyAt divC divP).getD .skip
theorem divB_at : bodyAt divC divP = some divB := by kernel_rfl
def eR : E := .bin .or .u64 (.bin .shl .u64 (.var 4) (.lit 1)) (.bin .shr .u64 (.var 0) (.lit 63))
def eHi1 : E := .bin .or .u64 (.bin .shl .u64 (.var 0) (.lit 1)) (.bin .shr .u64 (.var 1) (.lit 63))
def eLo1 : E := .bin .shl .u64 (.var 1) (.lit 1)
def eQ1 : E := .bin .or .u64 (.bin .shl .u64 (.var 2) (.lit 1)) (.bin .shr .u64 (.var 3) (.lit 63))
def eQ0 : E := .bin .shl .u64 (.var 3) (.lit 1)
def eI1 : E := .bin .add .i64 (.var 5) (.lit 1)
def divTree : T Vw := .br (.bin .lt .i64 (.var 5) (.lit 128)) (.br (.bin .lt .u64 eR (.lit 65536)) (.ok (.back true [eHi1, eLo1, eQ1, eQ0, eR, eI1])) (.ok (.back true [eHi1, eLo1, eQ1, .bin .or .u64 eQ0 (.lit 1), .bin .sub .u64 eR (.lit 65536), eI1]))) (.ok (.out .ret (some (.tuple [dvU 2, dvU 3, dvU 4]))))
set_option maxRecDepth 1000000 in
theorem div_round (g : Nat → Value) : (roundT Try.prog [] divCall (noKeep 70) 80 divC divP divB (divTm.st g)).map (vwOf Try.prog Try.f70 [] divTm 6) = divTree := by kernel_rfl

theorem or_low {x y q : Int} (hx : x = 2 * q) (h0 : 0 ≤ x) (h1 : x < 18446744073709551616) (y0 : 0 ≤ y) (y1 : y < 2) : BOp.or.ev .u64 x y = x + y := by
  have := or_disjoint .u64 (x := x) (y := y) (m := 1) (q := q) (by decide) (by rw [hx]; rfl) y0 (by simpa using y1)
  rw [this, w64]
  omega
theorem shl1 (x : Int) : BOp.shl.ev .u64 x 1 = (x * 2) % 18446744073709551616 := by
  show IntKind.u64.wrap (x * 2 ^ Nat.min (1 : Int).toNat IntKind.u64.bits) = _
  rw [show Nat.min (1 : Int).toNat IntKind.u64.bits = 1 by decide, w64]
  rfl
theorem shr63 (x : Int) : BOp.shr.ev .u64 x 63 = x / 9223372036854775808 := by
  show x.fdiv (2 ^ Nat.min (63 : Int).toNat IntKind.u64.bits) = _
  rw [show Nat.min (63 : Int).toNat IntKind.u64.bits = 63 by decide, Int.fdiv_eq_ediv_of_nonneg _ (by decide)]
  rfl
/-- A round on numbers. -/
theorem div_step {N hi lo A rem : Int} {k : Nat} (hk : k < 128) (hH : hi * 18446744073709551616 + lo = rem * 2 ^ k) (r0 : 0 ≤ rem) (r1 : rem < 2 ^ (128 - k)) (hN : A * 2 ^ (128 - k) + rem = N) (h0 : 0 ≤ hi) (h1 : hi < 18446744073709551616) (l0 : 0 ≤ lo) (l1 : lo < 18446744073709551616) :
    0 ≤ hi / 9223372036854775808 ∧ hi / 9223372036854775808 < 2 ∧ ∃ rem', (hi * 2 % 18446744073709551616 + lo / 9223372036854775808) * 18446744073709551616 + lo * 2 % 18446744073709551616 = rem' * 2 ^ (k + 1) ∧ 0 ≤ rem' ∧ rem' < 2 ^ (128 - (k + 1)) ∧ (2 * A + hi / 9223372036854775808) * 2 ^ (128 - (k + 1)) + rem' = N := by
  have e1 : (2 : Int) ^ (128 - k) = 2 * 2 ^ (128 - (k + 1)) := by
    rw [show 128 - k = (128 - (k + 1)) + 1 by omega, Int.pow_succ, Int.mul_comm]
  have e2 : (2 : Int) ^ (128 - (k + 1)) * 2 ^ k = 170141183460469231731687303715884105728 := by
    rw [← Int.pow_add, show 128 - (k + 1) + k = 127 by omega]; decide
  have e3 : (2 : Int) ^ (k + 1) = 2 * 2 ^ k := by rw [Int.pow_succ, Int.mul_comm]
  have hD : (0 : Int) < 2 ^ (128 - (k + 1)) := Int.pow_pos (by decide)
  have hE : (0 : Int) < 2 ^ k := Int.pow_pos (by decide)
  rw [e1] at r1 hN
  rw [e3]
  generalize (2 : Int) ^ (128 - (k + 1)) = D at *
  generalize (2 : Int) ^ k = E at *
  refine ⟨by omega, by omega, ?_⟩
  by_cases hc : D ≤ rem
  · have hm := Int.mul_le_mul_of_nonneg_right hc (Int.le_of_lt hE)
    have hb : hi / 9223372036854775808 = 1 := by omega
    refine ⟨rem - D, ?_, by omega, by omega, ?_⟩
    · have e5 : (rem - D) * (2 * E) = 2 * (rem * E) - 2 * (D * E) := by rw [Int.sub_mul, Int.mul_left_comm, Int.mul_left_comm D]
      rw [e5, ← hH, e2]
      omega
    · rw [hb, Int.add_mul, Int.mul_assoc 2, Int.one_mul, Int.mul_left_comm] at *
      have : A * (2 * D) = 2 * (A * D) := Int.mul_left_comm ..
      omega
  · have hm := Int.mul_le_mul_of_nonneg_right (show rem ≤ D - 1 by omega) (Int.le_of_lt hE)
    rw [Int.sub_mul, Int.one_mul] at hm
    have hb : hi / 9223372036854775808 = 0 := by omega
    refine ⟨rem, ?_, r0, by omega, ?_⟩
    · have e5 : rem * (2 * E) = 2 * (rem * E) := Int.mul_left_comm ..
      rw [e5, ← hH]
      omega
    · have : A * (2 * D) = 2 * A * D := by rw [← Int.mul_assoc, Int.mul_comm A 2]
      rw [hb, Int.add_zero]
      omega

def DivI (N : Int) (ρ : Env) (m : Nat) : Prop := ∃ (k : Nat) (rem : Int), k ≤ 128 ∧ m = 128 - k ∧ ρ.v 5 = k ∧ ρ.v 0 * 18446744073709551616 + ρ.v 1 = rem * 2 ^ k ∧ 0 ≤ rem ∧ rem < 2 ^ (128 - k) ∧ ρ.v 2 = 0 ∧ 0 ≤ ρ.v 3 ∧ 0 ≤ ρ.v 4 ∧ ρ.v 4 < 65536 ∧
  (ρ.v 3 * 65536 + ρ.v 4) * 2 ^ (128 - k) + rem = N ∧ 0 ≤ ρ.v 0 ∧ ρ.v 0 < 18446744073709551616 ∧ 0 ≤ ρ.v 1 ∧ ρ.v 1 < 18446744073709551616
theorem small_q {N A rem : Int} {j : Nat} (hA : 0 ≤ A) (h : A * 2 ^ j + rem = N) (hr : 0 ≤ rem) : A ≤ N := by
  have hD : (1 : Int) ≤ 2 ^ j := Int.pow_pos (by decide)
  have := Int.mul_le_mul_of_nonneg_left hD hA
  omega
def DivR (N : Int) (ρ : Env) (v : SV) : Prop := v.flat = true ∧ v.ev ρ β0 = .tuple #[.int .u64 0, .int .u64 (N / 65536), .int .u64 (N % 65536)]
set_option maxHeartbeats 1000000 in
theorem div_inv {N : Int} (hN : N < 18446744073709551616) {ρ : Env} {m : Nat} (h : DivI N ρ m) : divTree.holds ρ fun v => match v with
      | .back ok vs => ok = true ∧ ∀ σ : Nat → E, (∀ i, i < 6 → σ i = vs.getD i (.var i)) → ∃ m', m' < m ∧ DivI N (envSub ρ σ) m'
      | .out (.exit _) _ => False
      | .out _ (some v) => DivR N ρ v
      | .out _ none => False
      | .lost => False := by
  obtain ⟨k, rem, hk, rfl, h5, hH, r0, r1, h2, q0, p0, p1, hA, a0, a1, b0, b1⟩ := h
  have hq := small_q (by omega) hA r0
  have v0 : (E.var 0).ev ρ = ρ.v 0 := rfl
  have v1 : (E.var 1).ev ρ = ρ.v 1 := rfl
  have v2 : (E.var 2).ev ρ = ρ.v 2 := rfl
  have v3 : (E.var 3).ev ρ = ρ.v 3 := rfl
  have v4 : (E.var 4).ev ρ = ρ.v 4 := rfl
  have v5 : (E.var 5).ev ρ = ρ.v 5 := rfl
  have l1 : ∀ n : Int, (E.lit n).ev ρ = n := fun _ => rfl
  unfold divTree
  rw [br_lt, v5, l1, h5]
  refine ⟨fun hlt => ?_, fun hlt => ?_⟩
  · have hlt' : k < 128 := by omega
    obtain ⟨c0, c1, rem', g1, g2, g3, g4⟩ := div_step hlt' hH r0 r1 hA a0 a1 b0 b1
    have eR' : eR.ev ρ = 2 * ρ.v 4 + ρ.v 0 / 9223372036854775808 := by
      show BOp.or.ev .u64 (BOp.shl.ev .u64 (ρ.v 4) 1) (BOp.shr.ev .u64 (ρ.v 0) 63) = _
      rw [shl1, shr63, m64 (by omega) (by omega), or_low (q := ρ.v 4) (by omega) (by omega) (by omega) c0 c1]
      omega
    have eH' : eHi1.ev ρ = ρ.v 0 * 2 % 18446744073709551616 + ρ.v 1 / 9223372036854775808 := by
      show BOp.or.ev .u64 (BOp.shl.ev .u64 (ρ.v 0) 1) (BOp.shr.ev .u64 (ρ.v 1) 63) = _
      rw [shl1, shr63, or_low (q := ρ.v 0 % 9223372036854775808) (by omega) (by omega) (by omega) (by omega) (by omega)]
    have eL' : eLo1.ev ρ = ρ.v 1 * 2 % 18446744073709551616 := shl1 _
    have eQ1' : eQ1.ev ρ = 0 := by
      show BOp.or.ev .u64 (BOp.shl.ev .u64 (ρ.v 2) 1) (BOp.shr.ev .u64 (ρ.v 3) 63) = _
      rw [shl1, shr63, h2, or_low (q := 0) (by decide) (by decide) (by decide) (by omega) (by omega)]
      omega
    have eQ0' : eQ0.ev ρ = 2 * ρ.v 3 := by
      show BOp.shl.ev .u64 (ρ.v 3) 1 = _
      rw [shl1]
      omega
    have eI' : eI1.ev ρ = (k : Int) + 1 := by
      show IntKind.i64.wrap (ρ.v 5 + 1) = _
      rw [h5, i64w (by omega)]
    have fin : ∀ (Q0 R : E) (σ : Nat → E), (∀ i, i < 6 → σ i = [eHi1, eLo1, eQ1, Q0, R, eI1].getD i (.var i)) → 0 ≤ Q0.ev ρ → 0 ≤ R.ev ρ → R.ev ρ < 65536 → Q0.ev ρ * 65536 + R.ev ρ = 2 * (ρ.v 3 * 65536 + ρ.v 4) + ρ.v 0 / 9223372036854775808 → ∃ m', m' < 128 - k ∧ DivI N (envSub ρ σ) m' := fun Q0 R σ hσ u1 u2 u3 u4 => by
      have s0 : (envSub ρ σ).v 0 = eHi1.ev ρ := by show (σ 0).ev ρ = _; rw [hσ 0 (by decide)]; rfl
      have s1 : (envSub ρ σ).v 1 = eLo1.ev ρ := by show (σ 1).ev ρ = _; rw [hσ 1 (by decide)]; rfl
      have s2 : (envSub ρ σ).v 2 = eQ1.ev ρ := by show (σ 2).ev ρ = _; rw [hσ 2 (by decide)]; rfl
      have s3 : (envSub ρ σ).v 3 = Q0.ev ρ := by show (σ 3).ev ρ = _; rw [hσ 3 (by decide)]; rfl
      have s4 : (envSub ρ σ).v 4 = R.ev ρ := by show (σ 4).ev ρ = _; rw [hσ 4 (by decide)]; rfl
      have s5 : (envSub ρ σ).v 5 = eI1.ev ρ := by show (σ 5).ev ρ = _; rw [hσ 5 (by decide)]; rfl
      refine ⟨128 - (k + 1), by omega, k + 1, rem', by omega, rfl, ?_⟩
      rw [s0, s1, s2, s3, s4, s5, eH', eL', eQ1', eI']
      refine ⟨by omega, g1, g2, g3, rfl, u1, u2, u3, by rw [u4]; exact g4, ?_, ?_, ?_, ?_⟩ <;> omega
    rw [br_lt, eR', l1]
    refine ⟨fun hr => ⟨rfl, fun σ hσ => fin _ _ σ hσ ?_ ?_ ?_ ?_⟩, fun hr => ⟨rfl, fun σ hσ => fin _ _ σ hσ ?_ ?_ ?_ ?_⟩⟩
    · rw [eQ0']; omega
    · rw [eR']; omega
    · rw [eR']; omega
    · rw [eQ0', eR']; omega
    · show 0 ≤ BOp.or.ev .u64 (eQ0.ev ρ) 1
      rw [eQ0', or_low (q := ρ.v 3) rfl (by omega) (by omega) (by decide) (by decide)]; omega
    · show 0 ≤ IntKind.u64.wrap (eR.ev ρ - 65536)
      rw [eR', w64]; omega
    · show IntKind.u64.wrap (eR.ev ρ - 65536) < 65536
      rw [eR', w64]; omega
    · show BOp.or.ev .u64 (eQ0.ev ρ) 1 * 65536 + IntKind.u64.wrap (eR.ev ρ - 65536) = _
      rw [eQ0', or_low (q := ρ.v 3) rfl (by omega) (by omega) (by decide) (by decide), eR', w64]; omega
  · obtain rfl : k = 128 := by omega
    rw [show 128 - 128 = 0 from rfl] at r1 hA
    simp only [Int.pow_zero, Int.mul_one] at r1 hA
    refine ⟨rfl, ?_⟩
    show Value.tuple #[.int .u64 (ρ.v 2), .int .u64 (ρ.v 3), .int .u64 (ρ.v 4)] = _
    rw [h2, show ρ.v 3 = N / 65536 by omega, show ρ.v 4 = N % 65536 by omega]

def divArgs : List SV := [.int .u64 (.lit 0), .int .u64 (.var 0), .int .u64 (.lit 65536)]
def seeAt : Sp → Option (Path × Bool × List E)
  | .loop p st => some (p, divTm.fit [] (divTm.solve st) st, (List.range 6).map (divTm.solve st))
  | .done _ => none
set_option maxRecDepth 1000000 in
theorem div_enter : (execP Try.prog [] divCall (noKeep 70) 80 divC (entrySt Try.f70 divArgs .nil [])).map seeAt = .ok (some (divP, true, [.lit 0, .var 0, .lit 0, .lit 0, .lit 0, .lit 0])) := by kernel_rfl
set_option maxRecDepth 1000000 in
theorem div_body : Try.f70.body = some divC := by kernel_rfl
theorem divide_ok {N : Int} (h0 : 0 ≤ N) (h1 : N < 18446744073709551616) (w : World) : Calls Try.prog 70 #[.int .u64 0, .int .u64 N, .int .u64 65536] w fun e w' =>
    e = .returned (.tuple #[.int .u64 0, .int .u64 (N / 65536), .int .u64 (N % 65536)]) ∧ Below w.heap.size w w' := by
  have hc : ∀ ρ', SameEnv (envOf names38 [N]) ρ' → CallOk Try.prog ρ' w (fun _ => False) [] divCall := fun ρ' _ => callF_run mixed okF_ok (sums_none _ _ _ _) 30
  have hargs : SV.oks (envOf names38 [N]) 0 divArgs := by
    refine ⟨(by decide : (Lit.int .u64 0).wf = true), ?_, (by decide : (Lit.int .u64 65536).wf = true), trivial⟩
    show (Lit.int .u64 N).wf = true
    refine (wf_iff .u64 N).2 ⟨?_, ?_⟩ <;> simp [IntKind.min, IntKind.max, IntKind.bits, IntKind.signed] <;> omega
  have hst := entry_conc (fn := Try.f70) (gl := []) (heap_nil (envOf names38 [N]) w (fun _ => False) β0) (fs := []) (fun _ h => by cases h) hargs (fun _ h => by cases h)
  have he : SV.evs (envOf names38 [N]) β0 divArgs = [.int .u64 0, .int .u64 N, .int .u64 65536] := rfl
  rw [he] at hst
  refine calls_of_wp Try.func70 div_body (execP_run (keep := noKeep 70) (fuel := 80) (hc _ ⟨rfl, rfl⟩) mixed divC β0 _ _ w _ hst ?_)
  have hen : ((execP Try.prog [] divCall (noKeep 70) 80 divC (entrySt Try.f70 divArgs .nil [])).map seeAt).holds (envOf names38 [N]) fun x => x = some (divP, true, [.lit 0, .var 0, .lit 0, .lit 0, .lit 0, .lit 0]) := by
    rw [div_enter]; exact rfl
  refine T.holds_mono (fun s hs => ?_) (T.holds_map'.1 hen)
  cases s with
  | done r => simp only [seeAt] at hs; cases hs
  | loop p st =>
    simp only [seeAt, Option.some.injEq, Prod.mk.injEq] at hs
    obtain ⟨rfl, hfit, hsol⟩ := hs
    intro β' a' w' _ _ _ hc'
    refine ⟨divB, divB_at, wp_loop_rounds _ (loop_inv (keep := noKeep 70) (fuel := 80) (fn := Try.f70) (n := 6) hc mixed divB_at (DivI N) (DivR N) (fun ρ' m g _ _ hI => ?_) (fun ρ' β2 r v a2 w2 _ hc2 hx hv hR => ?_) 128 (envSub (envOf names38 [N]) (divTm.solve st)) _ β' a' w' ⟨rfl, rfl⟩ ?_ (Tm.fit_run hc' hfit))⟩
    · rw [div_round]; exact div_inv h1 hI
    · obtain ⟨x, st2⟩ := r
      have hv' : (resultsS Try.prog st2 (Try.f70).results.toList).map packS = some v := hv
      cases hvs : resultsS Try.prog st2 (Try.f70).results.toList with
      | none => rw [hvs] at hv'; cases hv'
      | some vs =>
        rw [hvs] at hv'
        obtain rfl := Option.some.inj hv'
        obtain ⟨r1, _⟩ := results_run hc2 hvs
        rw [SV.ev_flat β2 β0 _ hR.1, hR.2] at r1
        have fin : bodyPost Try.prog Try.f70 (fun e w' => e = .returned (.tuple #[.int .u64 0, .int .u64 (N / 65536), .int .u64 (N % 65536)]) ∧ Below w.heap.size w w') .ret a2 w2 := ⟨hc2.defers, _, r1, rfl, hc2.heap.kept.to_below⟩
        cases x with
        | exit id => exact absurd rfl (hx id)
        | normal => exact fin
        | ret => exact fin
    · have hs : ∀ i, i < 6 → divTm.solve st i = [E.lit 0, .var 0, .lit 0, .lit 0, .lit 0, .lit 0].getD i (.var i) := fun i hi => by rw [← hsol]; simp [hi]
      have g0 : (envSub (envOf names38 [N]) (divTm.solve st)).v 0 = 0 := by show (divTm.solve st 0).ev _ = _; rw [hs 0 (by decide)]; rfl
      have g1 : (envSub (envOf names38 [N]) (divTm.solve st)).v 1 = N := by show (divTm.solve st 1).ev _ = _; rw [hs 1 (by decide)]; rfl
      have g2 : (envSub (envOf names38 [N]) (divTm.solve st)).v 2 = 0 := by show (divTm.solve st 2).ev _ = _; rw [hs 2 (by decide)]; rfl
      have g3 : (envSub (envOf names38 [N]) (divTm.solve st)).v 3 = 0 := by show (divTm.solve st 3).ev _ = _; rw [hs 3 (by decide)]; rfl
      have g4 : (envSub (envOf names38 [N]) (divTm.solve st)).v 4 = 0 := by show (divTm.solve st 4).ev _ = _; rw [hs 4 (by decide)]; rfl
      have g5 : (envSub (envOf names38 [N]) (divTm.solve st)).v 5 = 0 := by show (divTm.solve st 5).ev _ = _; rw [hs 5 (by decide)]; rfl
      refine ⟨0, N, by decide, rfl, ?_⟩
      rw [g0, g1, g2, g3, g4, g5]
      refine ⟨rfl, by omega, h0, ?_, rfl, by decide, by decide, by decide, by omega, by decide, by decide, h0, h1⟩
      exact Int.lt_trans h1 (by decide)
end Go.Proofs.Ytkjbekloacihaaa
