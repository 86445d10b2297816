/- The rank of a number: its highest bit turned. No program in sight. -/
import Derived.Laws.BitsAllLaws
import Derived.Laws.BitsLemmas
import Derived.WalkKit
import Derived.Test.YthbfjnmdjehljaaDoorDsLaw
namespace Go.Proofs.YthbfjnmdjehljaaDoor
open DsLaw (I64 U64)

theorem nat_xor63 (a : Nat) (h : a < 2 ^ 64) : a ^^^ 2 ^ 63 = if a < 2 ^ 63 then a + 2 ^ 63 else a - 2 ^ 63 := by
  have h1 : (a ^^^ 2 ^ 63) % 2 ^ 63 = a % 2 ^ 63 := by
    rw [Nat.xor_mod_two_pow, Nat.mod_self, Nat.xor_zero]
  have h2 : (a ^^^ 2 ^ 63) / 2 ^ 63 = a / 2 ^ 63 ^^^ 1 := by
    rw [Nat.xor_div_two_pow, Nat.div_self (by omega)]
  by_cases hl : a < 2 ^ 63
  · rw [if_pos hl]
    rw [Nat.div_eq_of_lt hl] at h2
    have : (0 ^^^ 1 : Nat) = 1 := rfl
    omega
  · rw [if_neg hl]
    have h3 : a / 2 ^ 63 = 1 := by omega
    rw [h3] at h2
    have : (1 ^^^ 1 : Nat) = 0 := rfl
    omega
theorem xor63 (n : Int) (h : I64 n) : bits .xor .u64 (IntKind.u64.wrap n) 9223372036854775808 = DsLaw.up n := by
  have hw : IntKind.u64.wrap n = n % 18446744073709551616 := by simp [IntKind.wrap, IntKind.bits, IntKind.signed]
  unfold I64 at h
  rw [hw, u64_xor _ _ (by omega) (by omega) (by omega) (by omega)]
  have e : (9223372036854775808 : Int).toNat = 2 ^ 63 := by decide
  rw [e, nat_xor63 _ (by omega)]
  unfold DsLaw.up
  split <;> omega
theorem DsLaw.diff_u64 (x y : Int) (hx : I64 x) (hy : I64 y) (h : y < x) : IntKind.u64.wrap (IntKind.u64.wrap x - IntKind.u64.wrap y) = x - y := by
  have hw : ∀ n, IntKind.u64.wrap n = n % 18446744073709551616 := fun n => by simp [IntKind.wrap, IntKind.bits, IntKind.signed]
  unfold I64 at hx hy
  rw [hw, hw, hw]
  omega
end Go.Proofs.YthbfjnmdjehljaaDoor
