/- Layer 38: instant and AddCorr of the program and of the references, by what they come to. -/
import Derived.Test.YtkjbekloacihaaaR1
namespace Go.Proofs.Ytkjbekloacihaaa
open Go Go.RowKit SX
set_option linter.unusedVariables false
section
variable {ρ : Env} {α : Type} {t e : T α} {Q : α → Prop} {k : IntKind} {a b : E}
theorem br_lt : (T.br (.bin .lt k a b) t e).holds ρ Q ↔ (a.ev ρ < b.ev ρ → t.holds ρ Q) ∧ (¬ a.ev ρ < b.ev ρ → e.holds ρ Q) := by
  have h1 : (E.bin .lt k a b).ev ρ = if a.ev ρ < b.ev ρ then 1 else 0 := rfl
  simp only [T.holds, h1]
  by_cases h : a.ev ρ < b.ev ρ <;> simp [h]
theorem br_eq : (T.br (.bin .eq k a b) t e).holds ρ Q ↔ (a.ev ρ = b.ev ρ → t.holds ρ Q) ∧ (¬ a.ev ρ = b.ev ρ → e.holds ρ Q) := by
  have h1 : (E.bin .eq k a b).ev ρ = if a.ev ρ = b.ev ρ then 1 else 0 := rfl
  simp only [T.holds, h1]
  by_cases h : a.ev ρ = b.ev ρ <;> simp [h]
end
theorem w64 (x : Int) : IntKind.u64.wrap x = x % 18446744073709551616 := by simp [IntKind.wrap, IntKind.bits, IntKind.signed]
theorem i64w {x : Int} (h : -9223372036854775808 ≤ x ∧ x ≤ 9223372036854775807) : IntKind.i64.wrap x = x := wrap_fit ⟨by simpa [IntKind.min, IntKind.bits, IntKind.signed] using h.1, by simpa [IntKind.max, IntKind.bits, IntKind.signed] using h.2⟩
theorem ev_bin (ρ : Env) (o : BOp) (k : IntKind) (a b : E) : (E.bin o k a b).ev ρ = o.ev k (a.ev ρ) (b.ev ρ) := rfl
theorem and_low (x : Int) (h : 0 ≤ x) (h' : x < 18446744073709551616) : BOp.and.ev .u64 x 4294967295 = x % 4294967296 := by
  have := and_mask .u64 x (m := 32) (by decide)
  rw [show ((2 ^ 32 : Nat) - 1 : Int) = 4294967295 by decide] at this
  rw [this, show ((2 ^ 32 : Nat) : Int) = 4294967296 by decide, Int.fdiv_eq_ediv_of_nonneg _ (by decide)]
  omega
theorem shr32 (x : Int) : BOp.shr.ev .u64 x 32 = x / 4294967296 := by
  show x.fdiv (2 ^ Nat.min (32 : Int).toNat IntKind.u64.bits) = _
  rw [show Nat.min (32 : Int).toNat IntKind.u64.bits = 32 by decide, Int.fdiv_eq_ediv_of_nonneg _ (by decide)]
  rfl
theorem quo32 {x : Int} (h : 0 ≤ x) (h' : x < 18446744073709551616) : BOp.quo.ev .u64 x 4294967296 = x / 4294967296 := by
  show IntKind.u64.wrap (x.tdiv 4294967296) = _
  rw [w64, Int.tdiv_eq_ediv_of_nonneg h]
  omega
theorem rem32 {x : Int} (h : 0 ≤ x) : BOp.rem.ev .u64 x 4294967296 = x % 4294967296 := Int.tmod_eq_emod_of_nonneg h

def eX : E := .bin .conv .u64 (.bin .add .i64 (.var 0) (.lit 2208988800)) (.lit 0)
/-- The high word of x times 10^9 by halves, and the low one. -/
def eMid : E := .bin .add .u64 (.bin .mul .u64 (.bin .shr .u64 eX (.lit 32)) (.lit 1000000000)) (.bin .shr .u64 (.bin .mul .u64 (.bin .and .u64 eX (.lit 4294967295)) (.lit 1000000000)) (.lit 32))
def eHi : E := .bin .add .u64 (.bin .add .u64 (.bin .mul .u64 (.bin .shr .u64 eX (.lit 32)) (.lit 0)) (.bin .shr .u64 eMid (.lit 32))) (.bin .shr .u64 (.bin .add .u64 (.bin .and .u64 eMid (.lit 4294967295)) (.bin .mul .u64 (.bin .and .u64 eX (.lit 4294967295)) (.lit 0))) (.lit 32))
def eLo : E := .bin .mul .u64 eX (.lit 1000000000)
def rMid : E := .bin .add .u64 (.bin .mul .u64 (.bin .quo .u64 eX (.lit 4294967296)) (.lit 1000000000)) (.bin .quo .u64 (.bin .mul .u64 (.bin .rem .u64 eX (.lit 4294967296)) (.lit 1000000000)) (.lit 4294967296))
def rLow : E := .bin .add .u64 (.bin .mul .u64 (.bin .rem .u64 eX (.lit 4294967296)) (.lit 0)) (.bin .rem .u64 rMid (.lit 4294967296))
def rHi : E := .bin .add .u64 (.bin .add .u64 (.bin .mul .u64 (.bin .quo .u64 eX (.lit 4294967296)) (.lit 0)) (.bin .quo .u64 rMid (.lit 4294967296))) (.bin .quo .u64 rLow (.lit 4294967296))
def rLo : E := .bin .add .u64 (.bin .mul .u64 (.bin .rem .u64 rLow (.lit 4294967296)) (.lit 4294967296)) (.bin .rem .u64 (.bin .mul .u64 (.bin .rem .u64 eX (.lit 4294967296)) (.lit 1000000000)) (.lit 4294967296))
def noT : T SV := .ok (.tuple [.int .i64 (.lit 0), .bool (.lit 0)])
def yesT (e : E) : T SV := .ok (.tuple [.int .i64 e, .bool (.lit 1)])
def vlt (a b : E) (t e : T SV) : T SV := .br (.bin .lt .i64 a b) t e
def eT : E := .bin .add .i64 (.bin .conv .i64 eLo (.lit 0)) (.var 1)
def eOut : E := .bin .sub .i64 eT (.lit 3900000000000000000)
def rT : E := .bin .conv .i64 rLo (.lit 0)
def rOut : E := .bin .sub .i64 (.bin .add .i64 rT (.var 1)) (.lit 3900000000000000000)
def insTreeA : T SV := vlt (.var 0) (.lit 0) noT (vlt (.lit 281474976710655) (.var 0) noT (vlt (.var 1) (.lit 0) noT (vlt (.var 1) (.lit 1000000000)
  (.br (.bin .eq .u64 eHi (.lit 0)) (.br (.bin .lt .u64 (.lit 9223372036854775807) eLo) noT (.br (.bin .eq .i64 (.bin .lt .i64 eT (.lit 0)) (.bin .lt .i64 (.bin .conv .i64 eLo (.lit 0)) (.lit 0)))
    (vlt (.lit 8000000000000000000) eT noT (vlt eOut (.lit (-4503599627370496)) noT (vlt (.lit 4503599627370496) eOut noT (yesT eOut)))) noT)) noT) noT)))
def insTreeB : T SV := vlt (.var 0) (.lit 0) noT (vlt (.var 0) (.lit 281474976710656) (vlt (.var 1) (.lit 0) noT (vlt (.var 1) (.lit 1000000000)
  (.br (.bin .lt .u64 (.lit 0) rHi) noT (.br (.bin .lt .u64 (.lit 9223372036854775808) rLo) noT
    (vlt (.bin .sub .i64 (.lit 8000000000000000000) (.var 1)) rT noT (vlt rOut (.lit (-4503599627370496)) noT (vlt (.lit 4503599627370496) rOut noT (yesT rOut)))))) noT)) noT)
set_option maxRecDepth 100000 in
theorem insA_tree : retI (callF Try.prog [] okF sumsN noKeep 80 30 37 (varShs [stSh] 0) .nil (varFacts [stSh] 0)) = insTreeA := by kernel_rfl
set_option maxRecDepth 100000 in
theorem insB_tree : retI (callF Try.prog [] okF sumsN noKeep 80 30 31 (varShs [stSh] 0) .nil (varFacts [stSh] 0)) = insTreeB := by kernel_rfl

/-! ### What they come to -/
def stT (s n : Int) : Int := (s + 2208988800) * 1000000000 + n
def stOk (s n : Int) : Prop := 0 ≤ s ∧ s < 281474976710656 ∧ 0 ≤ n ∧ n < 1000000000 ∧ stT s n ≤ 8000000000000000000 ∧ -4503599627370496 ≤ stT s n - 3900000000000000000 ∧ stT s n - 3900000000000000000 ≤ 4503599627370496
instance (s n : Int) : Decidable (stOk s n) := by unfold stOk; infer_instance
def insF (j : Nat) (ns : List Int) : Int := if stOk (ns.getD 0 0) (ns.getD 1 0) then (if j = 0 then stT (ns.getD 0 0) (ns.getD 1 0) - 3900000000000000000 else 1) else 0
section
variable {ρ : Env} {s n : Int}
theorem eX_ev (h0 : ρ.v 0 = s) (h1 : 0 ≤ s) (h2 : s < 281474976710656) : eX.ev ρ = s + 2208988800 := by
  show IntKind.u64.wrap (IntKind.i64.wrap (ρ.v 0 + 2208988800)) = _
  rw [h0, i64w (by omega), w64]
  omega
theorem mul_ev (a b : Int) : BOp.mul.ev .u64 a b = (a * b) % 18446744073709551616 := w64 _
theorem add_ev (a b : Int) : BOp.add.ev .u64 a b = (a + b) % 18446744073709551616 := w64 _
theorem m64 {x : Int} (h : 0 ≤ x) (h' : x < 18446744073709551616) : x % 18446744073709551616 = x := Int.emod_eq_of_lt h h'
/-- x's halves, and what they come to times 10^9. -/
structure Halves (x : Int) where
  h : Int
  l : Int
  a : Int
  b : Int
  hx : x = 4294967296 * h + l
  h0 : 0 ≤ h
  h1 : h < 131072
  l0 : 0 ≤ l
  l1 : l < 4294967296
  la : l * 1000000000 = 4294967296 * a + b
  a0 : 0 ≤ a
  a1 : a < 1000000000
  b0 : 0 ≤ b
  b1 : b < 4294967296
def halves (x : Int) (h1 : 0 ≤ x) (h2 : x < 562949953421312) : Halves x :=
  ⟨x / 4294967296, x % 4294967296, x % 4294967296 * 1000000000 / 4294967296, x % 4294967296 * 1000000000 % 4294967296, by omega, by omega, by omega, by omega, by omega, by omega, by omega, by omega, by omega, by omega⟩
section
variable {x : Int} (H : Halves x)
theorem Halves.dh : x / 4294967296 = H.h := by have := H.hx; have := H.l0; have := H.l1; omega
theorem Halves.dl : x % 4294967296 = H.l := by have := H.hx; have := H.l0; have := H.l1; omega
theorem Halves.da : H.l * 1000000000 / 4294967296 = H.a := by have := H.la; have := H.b0; have := H.b1; omega
theorem Halves.db : H.l * 1000000000 % 4294967296 = H.b := by have := H.la; have := H.b0; have := H.b1; omega
theorem Halves.low {x : Int} (h1 : 0 ≤ x) (h2 : x < 562949953421312) : 0 ≤ x ∧ x < 18446744073709551616 := ⟨h1, by omega⟩
/-- The middle sum, and the product by its halves. -/
theorem Halves.mid : 0 ≤ H.h * 1000000000 + H.a ∧ H.h * 1000000000 + H.a < 281474976710656 := by have := H.h0; have := H.h1; have := H.a0; have := H.a1; omega
theorem Halves.hi : x * 1000000000 / 18446744073709551616 = (H.h * 1000000000 + H.a) / 4294967296 := by
  have := H.hx; have := H.la; have := H.b0; have := H.b1
  have e : x * 1000000000 = 4294967296 * (H.h * 1000000000 + H.a) + H.b := by omega
  omega
theorem Halves.lo : x * 1000000000 % 18446744073709551616 = (H.h * 1000000000 + H.a) % 4294967296 * 4294967296 + H.b := by
  have := H.hx; have := H.la; have := H.b0; have := H.b1
  have e : x * 1000000000 = 4294967296 * (H.h * 1000000000 + H.a) + H.b := by omega
  omega
end
theorem eMid_ev {x : Int} (hx : eX.ev ρ = x) (h1 : 0 ≤ x) (h2 : x < 562949953421312) (H : Halves x) : eMid.ev ρ = H.h * 1000000000 + H.a := by
  have hm := H.mid; have q1 := H.h0; have q2 := H.h1; have q3 := H.l0; have q4 := H.l1
  unfold eMid
  simp only [ev_bin, hx]
  show BOp.add.ev .u64 (BOp.mul.ev .u64 (BOp.shr.ev .u64 x 32) 1000000000) (BOp.shr.ev .u64 (BOp.mul.ev .u64 (BOp.and.ev .u64 x 4294967295) 1000000000) 32) = _
  rw [shr32, shr32, and_low x h1 (by omega), H.dh, H.dl, mul_ev, mul_ev, m64 (x := H.l * 1000000000) (by omega) (by omega), H.da, m64 (x := H.h * 1000000000) (by omega) (by omega), add_ev, m64 (by omega) (by omega)]
theorem eHi_ev {x : Int} (hx : eX.ev ρ = x) (h1 : 0 ≤ x) (h2 : x < 562949953421312) : eHi.ev ρ = x * 1000000000 / 18446744073709551616 := by
  have H := halves x h1 h2
  have hm := eMid_ev hx h1 h2 H
  have hm' := H.mid
  rw [H.hi]
  unfold eHi
  simp only [ev_bin, hx, hm]
  generalize H.h * 1000000000 + H.a = m at *
  show BOp.add.ev .u64 (BOp.add.ev .u64 (BOp.mul.ev .u64 (BOp.shr.ev .u64 x 32) 0) (BOp.shr.ev .u64 m 32)) (BOp.shr.ev .u64 (BOp.add.ev .u64 (BOp.and.ev .u64 m 4294967295) (BOp.mul.ev .u64 (BOp.and.ev .u64 x 4294967295) 0)) 32) = _
  rw [shr32, shr32, shr32, and_low m hm'.1 (by omega), mul_ev, mul_ev, Int.mul_zero, Int.mul_zero, Int.zero_emod, add_ev, add_ev, add_ev, Int.zero_add, Int.add_zero, m64 (x := m / 4294967296) (by omega) (by omega), m64 (x := m % 4294967296) (by omega) (by omega),
    show m % 4294967296 / 4294967296 = 0 by omega, Int.add_zero, m64 (by omega) (by omega)]
theorem eLo_ev {x : Int} (hx : eX.ev ρ = x) : eLo.ev ρ = x * 1000000000 % 18446744073709551616 := by
  unfold eLo
  simp only [ev_bin, hx]
  exact mul_ev _ _
theorem rMid_ev {x : Int} (hx : eX.ev ρ = x) (h1 : 0 ≤ x) (h2 : x < 562949953421312) (H : Halves x) : rMid.ev ρ = H.h * 1000000000 + H.a := by
  have hm := H.mid; have q1 := H.h0; have q2 := H.h1; have q3 := H.l0; have q4 := H.l1
  unfold rMid
  simp only [ev_bin, hx]
  show BOp.add.ev .u64 (BOp.mul.ev .u64 (BOp.quo.ev .u64 x 4294967296) 1000000000) (BOp.quo.ev .u64 (BOp.mul.ev .u64 (BOp.rem.ev .u64 x 4294967296) 1000000000) 4294967296) = _
  rw [quo32 h1 (by omega), rem32 h1, H.dh, H.dl, mul_ev, mul_ev, m64 (x := H.l * 1000000000) (by omega) (by omega), quo32 (by omega) (by omega), H.da, m64 (x := H.h * 1000000000) (by omega) (by omega), add_ev, m64 (by omega) (by omega)]
theorem rLow_ev {x : Int} (hx : eX.ev ρ = x) (h1 : 0 ≤ x) (h2 : x < 562949953421312) (H : Halves x) : rLow.ev ρ = (H.h * 1000000000 + H.a) % 4294967296 := by
  have hm := rMid_ev hx h1 h2 H
  have hm' := H.mid
  unfold rLow
  simp only [ev_bin, hx, hm]
  generalize H.h * 1000000000 + H.a = m at *
  show BOp.add.ev .u64 (BOp.mul.ev .u64 (BOp.rem.ev .u64 x 4294967296) 0) (BOp.rem.ev .u64 m 4294967296) = _
  rw [rem32 hm'.1, mul_ev, Int.mul_zero, Int.zero_emod, add_ev, Int.zero_add, m64 (by omega) (by omega)]
theorem rHi_ev {x : Int} (hx : eX.ev ρ = x) (h1 : 0 ≤ x) (h2 : x < 562949953421312) : rHi.ev ρ = x * 1000000000 / 18446744073709551616 := by
  have H := halves x h1 h2
  have hm := rMid_ev hx h1 h2 H
  have hl := rLow_ev hx h1 h2 H
  have hm' := H.mid
  rw [H.hi]
  unfold rHi
  simp only [ev_bin, hx, hm, hl]
  generalize H.h * 1000000000 + H.a = m at *
  show BOp.add.ev .u64 (BOp.add.ev .u64 (BOp.mul.ev .u64 (BOp.quo.ev .u64 x 4294967296) 0) (BOp.quo.ev .u64 m 4294967296)) (BOp.quo.ev .u64 (m % 4294967296) 4294967296) = _
  rw [quo32 hm'.1 (by omega), quo32 (x := m % 4294967296) (by omega) (by omega), mul_ev, Int.mul_zero, Int.zero_emod, add_ev, add_ev, Int.zero_add, m64 (x := m / 4294967296) (by omega) (by omega), show m % 4294967296 / 4294967296 = 0 by omega, Int.add_zero, m64 (by omega) (by omega)]
theorem rLo_ev {x : Int} (hx : eX.ev ρ = x) (h1 : 0 ≤ x) (h2 : x < 562949953421312) : rLo.ev ρ = x * 1000000000 % 18446744073709551616 := by
  have H := halves x h1 h2
  have hl := rLow_ev hx h1 h2 H
  have q3 := H.l0; have q4 := H.l1; have q5 := H.b0; have q6 := H.b1
  have hm' := H.mid
  rw [H.lo]
  unfold rLo
  simp only [ev_bin, hx, hl]
  have hd : H.l * 1000000000 % 4294967296 = H.b := H.db
  have hl0 : 0 ≤ H.l * 1000000000 := by omega
  have hl1 : H.l * 1000000000 < 18446744073709551616 := by omega
  have hdl := H.dl
  generalize H.h * 1000000000 + H.a = m at *
  show BOp.add.ev .u64 (BOp.mul.ev .u64 (BOp.rem.ev .u64 (m % 4294967296) 4294967296) 4294967296) (BOp.rem.ev .u64 (BOp.mul.ev .u64 (BOp.rem.ev .u64 x 4294967296) 1000000000) 4294967296) = _
  rw [rem32 (by omega), rem32 h1, hdl, mul_ev, mul_ev, m64 hl0 hl1, rem32 hl0, hd, show m % 4294967296 % 4294967296 = m % 4294967296 by omega, m64 (x := m % 4294967296 * 4294967296) (by omega) (by omega), add_ev, m64 (by omega) (by omega)]
theorem conv_ev (a b : Int) : BOp.conv.ev .i64 a b = IntKind.i64.wrap a := rfl
theorem addi_ev (a b : Int) : BOp.add.ev .i64 a b = IntKind.i64.wrap (a + b) := rfl
theorem subi_ev (a b : Int) : BOp.sub.ev .i64 a b = IntKind.i64.wrap (a - b) := rfl
theorem i64_wrap (x : Int) : IntKind.i64.wrap x = (x + 9223372036854775808) % 18446744073709551616 - 9223372036854775808 := by
  simp [IntKind.wrap, IntKind.bits, IntKind.signed]
  split <;> omega
end
end Go.Proofs.Ytkjbekloacihaaa
