/- What an expression comes to: sums, products, quotients, bits, tests, as linear forms with bounds. Of no program. -/
import Derived.Test.YthbfjnmdjehljaaDoorSxA
namespace Go.Proofs.YthbfjnmdjehljaaDoor.SX
open Go
set_option linter.unusedVariables false
set_option linter.unusedSimpArgs false

/-! ### Bits -/
theorem ofInt_toNat (w : Nat) (x : Int) : ((BitVec.ofInt w x).toNat : Int) = x % (2 ^ w : Nat) := by
  rw [BitVec.toNat_ofInt]
  have : (0 : Int) ≤ x % (2 ^ w : Nat) := Int.emod_nonneg _ (by have := Nat.two_pow_pos w; omega)
  omega
theorem ofInt_toNat_small {w : Nat} {x : Int} (h0 : 0 ≤ x) (h : x < 2 ^ w) : ((BitVec.ofInt w x).toNat : Int) = x := by
  rw [ofInt_toNat, Int.emod_eq_of_lt h0 (by push_cast; exact h)]
theorem max_lt (k : IntKind) : k.max < 2 ^ k.bits := by cases k <;> decide
theorem min_le (k : IntKind) : k.min ≤ 0 := by cases k <;> decide
theorem max_ge (k : IntKind) : 0 ≤ k.max := by cases k <;> decide
/-- An 'and' with a number that is not negative. -/
theorem and_bnd (k : IntKind) (x : Int) {c : Int} (h0 : 0 ≤ c) (h : c ≤ k.max) : 0 ≤ BOp.and.ev k x c ∧ BOp.and.ev k x c ≤ c := by
  have hc := ofInt_toNat_small (w := k.bits) h0 (Int.lt_of_le_of_lt h (max_lt k))
  have hle : (BitVec.ofInt k.bits x &&& BitVec.ofInt k.bits c).toNat ≤ (BitVec.ofInt k.bits c).toNat := by rw [BitVec.toNat_and]; exact Nat.and_le_right
  have hw : k.wrap ((BitVec.ofInt k.bits x &&& BitVec.ofInt k.bits c).toNat : Int) = ((BitVec.ofInt k.bits x &&& BitVec.ofInt k.bits c).toNat : Int) := wrap_in k ⟨by have := min_le k; omega, by omega⟩
  simp only [BOp.ev, hw]
  omega
theorem andNot_bnd (k : IntKind) {x : Int} (y : Int) {h : Int} (h0 : 0 ≤ x) (hx : x ≤ h) (hh : h ≤ k.max) : 0 ≤ BOp.andNot.ev k x y ∧ BOp.andNot.ev k x y ≤ h := by
  have hc := ofInt_toNat_small (w := k.bits) h0 (Int.lt_of_le_of_lt (Int.le_trans hx hh) (max_lt k))
  have hle : (BitVec.ofInt k.bits x &&& ~~~BitVec.ofInt k.bits y).toNat ≤ (BitVec.ofInt k.bits x).toNat := by rw [BitVec.toNat_and]; exact Nat.and_le_left
  have hw : k.wrap ((BitVec.ofInt k.bits x &&& ~~~BitVec.ofInt k.bits y).toNat : Int) = ((BitVec.ofInt k.bits x &&& ~~~BitVec.ofInt k.bits y).toNat : Int) := wrap_in k ⟨by have := min_le k; omega, by omega⟩
  simp only [BOp.ev, hw]
  omega
/-- An 'and' with the m lowest bits. -/
theorem and_mask (k : IntKind) (x : Int) {m : Nat} (h : ((2 ^ m : Nat) : Int) - 1 ≤ k.max) : BOp.and.ev k x ((2 ^ m : Nat) - 1 : Int) = x - (2 ^ m : Nat) * x.fdiv (2 ^ m : Nat) := by
  have hp := Nat.two_pow_pos m
  have h0 : (0 : Int) ≤ ((2 ^ m : Nat) : Int) - 1 := by omega
  have hc := ofInt_toNat_small (w := k.bits) h0 (Int.lt_of_le_of_lt h (max_lt k))
  have hb := and_bnd k x h0 h
  have hmle : m ≤ k.bits := by
    rcases Nat.lt_or_ge k.bits m with h1 | h1
    · have h2 : (2 : Nat) ^ k.bits < 2 ^ m := Nat.pow_lt_pow_right (by decide) h1
      have h3 := max_lt k
      have h4 : ((2 ^ k.bits : Nat) : Int) = (2 : Int) ^ k.bits := by push_cast; rfl
      omega
    · exact h1
  have hand : ((BitVec.ofInt k.bits x &&& BitVec.ofInt k.bits (((2 ^ m : Nat) : Int) - 1)).toNat : Int) = x % (2 ^ m : Nat) := by
    rw [BitVec.toNat_and]
    have e1 : (BitVec.ofInt k.bits (((2 ^ m : Nat) : Int) - 1)).toNat = 2 ^ m - 1 := by omega
    rw [e1, Nat.and_two_pow_sub_one_eq_mod]
    rw [Int.natCast_emod, ofInt_toNat]
    exact Int.emod_emod_of_dvd x (Int.natCast_dvd_natCast.2 (Nat.pow_dvd_pow 2 hmle))
  have hw : BOp.and.ev k x (((2 ^ m : Nat) : Int) - 1) = x % (2 ^ m : Nat) := by
    simp only [BOp.ev, hand]
    refine wrap_in k ?_
    have h1 : 0 ≤ x % ((2 ^ m : Nat) : Int) := Int.emod_nonneg _ (by omega)
    have h2 : x % ((2 ^ m : Nat) : Int) < ((2 ^ m : Nat) : Int) := Int.emod_lt_of_pos _ (by omega)
    have := min_le k
    omega
  rw [hw, Int.fdiv_eq_ediv_of_nonneg _ (by omega), Int.emod_def]
theorem wrap_congr (k : IntKind) {a b : Int} (h : a % (2 ^ k.bits : Nat) = b % (2 ^ k.bits : Nat)) : k.wrap a = k.wrap b := by
  push_cast at h
  simp only [IntKind.wrap, h]
/-- An 'or' of a multiple of 2^m and a number below it. -/
theorem or_disjoint (k : IntKind) {x y : Int} {m : Nat} {q : Int} (hm : m ≤ k.bits) (hx : x = (2 ^ m : Nat) * q) (h0 : 0 ≤ y) (hy : y < (2 ^ m : Nat)) : BOp.or.ev k x y = k.wrap (x + y) := by
  have hpw : (2 : Nat) ^ m ≤ 2 ^ k.bits := Nat.pow_le_pow_right (by decide) hm
  have hY := ofInt_toNat k.bits y
  rw [Int.emod_eq_of_lt h0 (by omega)] at hY
  have hX := ofInt_toNat k.bits x
  have hdvd : ((2 ^ m : Nat) : Int) ∣ x % (2 ^ k.bits : Nat) := by
    have h1 : ((2 ^ m : Nat) : Int) ∣ (2 ^ k.bits : Nat) := Int.natCast_dvd_natCast.2 (Nat.pow_dvd_pow 2 hm)
    have h2 : ((2 ^ m : Nat) : Int) ∣ x := ⟨q, hx⟩
    rw [Int.emod_def]
    exact Int.dvd_sub h2 (Int.dvd_trans h1 (Int.dvd_mul_right ..))
  have hor : ((BitVec.ofInt k.bits x ||| BitVec.ofInt k.bits y).toNat : Int) = x % (2 ^ k.bits : Nat) + y := by
    rw [BitVec.toNat_or]
    rw [← hX] at hdvd ⊢
    obtain ⟨p, hp⟩ := Int.natCast_dvd_natCast.1 hdvd
    rw [hp, ← Nat.two_pow_add_eq_or_of_lt (by omega), Int.natCast_add, hY]
  simp only [BOp.ev, hor]
  exact wrap_congr k (by rw [Int.add_emod, Int.emod_emod_of_dvd _ (Int.dvd_refl _), ← Int.add_emod])
theorem or_bnd (k : IntKind) {x y : Int} {m : Nat} (hm : ((2 ^ m : Nat) : Int) - 1 ≤ k.max) (hx0 : 0 ≤ x) (hx : x < (2 ^ m : Nat)) (hy0 : 0 ≤ y) (hy : y < (2 ^ m : Nat)) : 0 ≤ BOp.or.ev k x y ∧ BOp.or.ev k x y ≤ ((2 ^ m : Nat) : Int) - 1 := by
  have hlt := max_lt k
  have hX := ofInt_toNat_small (w := k.bits) hx0 (by omega)
  have hY := ofInt_toNat_small (w := k.bits) hy0 (by omega)
  have h1 : (BitVec.ofInt k.bits x ||| BitVec.ofInt k.bits y).toNat < 2 ^ m := by
    rw [BitVec.toNat_or]
    exact Nat.or_lt_two_pow (by omega) (by omega)
  have hw : k.wrap ((BitVec.ofInt k.bits x ||| BitVec.ofInt k.bits y).toNat : Int) = ((BitVec.ofInt k.bits x ||| BitVec.ofInt k.bits y).toNat : Int) := wrap_in k ⟨by have := min_le k; omega, by omega⟩
  simp only [BOp.ev, hw]
  omega
theorem ofInt_wrap (k : IntKind) (n : Int) : BitVec.ofInt k.bits (k.wrap n) = BitVec.ofInt k.bits n := by
  apply BitVec.eq_of_toNat_eq
  have h1 := ofInt_toNat k.bits (k.wrap n)
  have h2 := ofInt_toNat k.bits n
  have h3 : k.wrap n % (2 ^ k.bits : Nat) = n % (2 ^ k.bits : Nat) := by
    rw [wrap_fdiv, pw_eq]
    push_cast
    rw [Int.sub_emod, Int.mul_emod_right]
    simp
  omega
theorem ofInt_nat (w : Nat) (v : BitVec w) : BitVec.ofInt w (v.toNat : Int) = v := by simp
/-- The masked bits of a number that has them. -/
theorem and_or (k : IntKind) (x : Int) {m : Int} (h0 : 0 ≤ m) (h : m ≤ k.max) : BOp.and.ev k (BOp.or.ev k x m) m = m := by
  have hv : (BitVec.ofInt k.bits x ||| BitVec.ofInt k.bits m) &&& BitVec.ofInt k.bits m = BitVec.ofInt k.bits m := by
    apply BitVec.eq_of_getLsbD_eq
    intro i hi
    rw [BitVec.getLsbD_and, BitVec.getLsbD_or]
    cases (BitVec.ofInt k.bits x).getLsbD i <;> cases (BitVec.ofInt k.bits m).getLsbD i <;> rfl
  have hm := ofInt_toNat_small (w := k.bits) h0 (Int.lt_of_le_of_lt h (max_lt k))
  simp only [BOp.ev, ofInt_wrap, ofInt_nat, hv, hm]
  exact wrap_in k ⟨by have := min_le k; omega, h⟩
theorem and_andNot (k : IntKind) (x m : Int) : BOp.and.ev k (BOp.andNot.ev k x m) m = 0 := by
  have hv : (BitVec.ofInt k.bits x &&& ~~~BitVec.ofInt k.bits m) &&& BitVec.ofInt k.bits m = 0#k.bits := by
    apply BitVec.eq_of_getLsbD_eq
    intro i hi
    rw [BitVec.getLsbD_and, BitVec.getLsbD_and, BitVec.getLsbD_not]
    cases (BitVec.ofInt k.bits x).getLsbD i <;> cases (BitVec.ofInt k.bits m).getLsbD i <;> simp
  simp only [BOp.ev, ofInt_wrap, ofInt_nat, hv]
  cases k <;> decide

/-! ### Quotients -/
theorem tdiv_nonneg {x c : Int} (hx : 0 ≤ x) (hc : 0 < c) : x.tdiv c = x.fdiv c := by
  rw [Int.tdiv_eq_ediv_of_nonneg hx, Int.fdiv_eq_ediv_of_nonneg _ (by omega)]
theorem tmod_nonneg {x c : Int} (hx : 0 ≤ x) (hc : 0 < c) : x.tmod c = x - c * x.fdiv c := by
  rw [Int.tmod_eq_emod_of_nonneg hx, Int.fdiv_eq_ediv_of_nonneg _ (by omega), Int.emod_def]
theorem tdiv_exact {c q : Int} (hc : 0 < c) : (c * q).tdiv c = q := by rw [Int.mul_comm]; exact Int.mul_tdiv_cancel _ (by omega)
theorem tmod_exact {c q : Int} : (c * q).tmod c = 0 := Int.mul_tmod_right ..
theorem tmod_bnd (x : Int) {c : Int} (hc : 0 < c) : -(c - 1) ≤ x.tmod c ∧ x.tmod c ≤ c - 1 := by
  have h1 := Int.tmod_lt_of_pos x hc
  have h2 := Int.lt_tmod_of_pos x hc
  omega

/-! ### Operations -/
def Lin.isC (L : Lin) : Option Int := match L.l with | [] => some L.c | _ => none
theorem Lin.isC_spec {ρ : Env} {L : Lin} {c : Int} (h : L.isC = some c) : L.ev ρ = c := by
  unfold Lin.isC at h
  split at h
  · rename_i hl
    obtain rfl := Option.some.inj h
    simp [Lin.ev, hl, evL]
  · cases h
def nonneg (b : Bnd) : Bool := match b.lo with | some n => decide (0 ≤ n) | none => false
theorem nonneg_spec {b : Bnd} {x : Int} (h : b.has x) (hn : nonneg b = true) : 0 ≤ x := by
  unfold nonneg at hn
  split at hn
  · rename_i n hl
    have := h.1 n hl
    simp at hn; omega
  · cases hn
/-- The number of bits of a bound. -/
def bitsFor (b : Bnd) : Option Nat := match b.lo, b.hi with
  | some a, some h => if 0 ≤ a then some (if h ≤ 0 then 0 else Nat.log2 h.toNat + 1) else none
  | _, _ => none
theorem bitsFor_spec {b : Bnd} {x : Int} {m : Nat} (h : b.has x) (hm : bitsFor b = some m) : 0 ≤ x ∧ x < (2 ^ m : Nat) := by
  unfold bitsFor at hm
  split at hm
  · rename_i a c ha hc
    have h1 := h.1 _ ha
    have h2 := h.2 _ hc
    split at hm
    · obtain rfl := Option.some.inj hm
      refine ⟨by omega, ?_⟩
      split
      · show x < ((1 : Nat) : Int); omega
      · rename_i hc0
        have h3 : c.toNat < 2 ^ (Nat.log2 c.toNat + 1) := Nat.lt_log2_self
        omega
    · cases hm
  · cases hm
def isMask (c : Int) : Option Nat := let m := Nat.log2 (c.toNat + 1); if c = ((2 ^ m : Nat) : Int) - 1 then some m else none
theorem isMask_spec {c : Int} {m : Nat} (h : isMask c = some m) : c = ((2 ^ m : Nat) : Int) - 1 := by
  unfold isMask at h
  simp only at h
  split at h
  · rename_i he; obtain rfl := Option.some.inj h; exact he
  · cases h
def divides (c : Int) (L : Lin) : Bool := decide ((L.rem c).c = 0) && match (L.rem c).l with | [] => true | _ => false
theorem divides_spec {ρ : Env} {c : Int} {L : Lin} (h : divides c L = true) : L.ev ρ = c * (L.quo c).ev ρ := by
  unfold divides at h
  rw [Bool.and_eq_true, decide_eq_true_eq] at h
  have h2 : (L.rem c).ev ρ = 0 := by
    unfold Lin.ev
    rw [h.1]
    have := h.2
    split at this
    · rename_i hl; rw [hl]; simp [evL]
    · cases this
  have := Lin.quo_rem ρ c L
  omega
def orOf (L : Lin) : Option (IntKind × Int) := match L.c, L.l with
  | 0, [(1, .bin .or k _ (.lit m))] => some (k, m)
  | _, _ => none
def andNotOf (L : Lin) : Option (IntKind × Int) := match L.c, L.l with
  | 0, [(1, .bin .andNot k _ (.lit m))] => some (k, m)
  | _, _ => none
theorem orOf_spec {ρ : Env} {L : Lin} {k : IntKind} {m : Int} (h : orOf L = some (k, m)) : ∃ y : Int, L.ev ρ = BOp.or.ev k y m := by
  unfold orOf at h
  split at h
  · rename_i k' e m' hc hl
    simp only [Option.some.injEq, Prod.mk.injEq] at h
    obtain ⟨rfl, rfl⟩ := h
    exact ⟨e.ev ρ, by simp only [Lin.ev, hc, hl, evL, E.ev]; omega⟩
  · cases h
theorem andNotOf_spec {ρ : Env} {L : Lin} {k : IntKind} {m : Int} (h : andNotOf L = some (k, m)) : ∃ y : Int, L.ev ρ = BOp.andNot.ev k y m := by
  unfold andNotOf at h
  split at h
  · rename_i k' e m' hc hl
    simp only [Option.some.injEq, Prod.mk.injEq] at h
    obtain ⟨rfl, rfl⟩ := h
    exact ⟨e.ev ρ, by simp only [Lin.ev, hc, hl, evL, E.ev]; omega⟩
  · cases h
def neg1 (L : Lin) : Lin := L.scl (-1)
def subB (x y : Rz) : Lin × Bnd := (x.1.add (y.1.scl (-1)), x.2.add (y.2.scl (-1)))
section
variable (fs : List (E × Bool))
def gen (o : BOp) (k : IntKind) (x y : Rz) (b : Bnd) : Rz := atomR fs (.bin o k x.1.toE y.1.toE) b
def rng (k : IntKind) : Bnd := .of k.min k.max
def quoR (k : IntKind) (x y : Rz) : Rz :=
  match y.1.isC with
  | some c => if 0 < c then
      if nonneg x.2 then let r := fdivR fs c depth x.1 x.2; wrapR fs k r.1 r.2
      else if divides c x.1 then wrapR fs k (x.1.quo c) (x.2.fdiv c)
      else gen fs .quo k x y (rng k)
    else gen fs .quo k x y (rng k)
  | none => gen fs .quo k x y (rng k)
def remR (k : IntKind) (x y : Rz) : Rz :=
  match y.1.isC with
  | some c => if 0 < c then
      if nonneg x.2 then fin fs (x.1.add ((fdivR fs c depth x.1 x.2).1.scl (-c))) (.of 0 (c - 1))
      else if divides c x.1 then fin fs ⟨0, []⟩ (.one 0)
      else gen fs .rem k x y (.of (-(c - 1)) (c - 1))
    else gen fs .rem k x y .top
  | none => gen fs .rem k x y .top
def andR (k : IntKind) (x y : Rz) : Rz :=
  match y.1.isC with
  | some c => if 0 ≤ c ∧ c ≤ k.max then
      match isMask c with
      | some m => fin fs (x.1.add ((fdivR fs (pw m) depth x.1 x.2).1.scl (-(pw m)))) (.of 0 c)
      | none =>
        match orOf x.1 with
        | some (k', m) => if kTag k = kTag k' ∧ m = c then fin fs ⟨c, []⟩ (.one c) else gen fs .and k x y (.of 0 c)
        | none => match andNotOf x.1 with
          | some (k', m) => if kTag k = kTag k' ∧ m = c then fin fs ⟨0, []⟩ (.one 0) else gen fs .and k x y (.of 0 c)
          | none => gen fs .and k x y (.of 0 c)
    else gen fs .and k x y (rng k)
  | none => gen fs .and k x y (rng k)
def orR (k : IntKind) (x y : Rz) : Rz :=
  match bitsFor y.2 with
  | some m => if m ≤ k.bits ∧ divides (pw m) x.1 then wrapR fs k (x.1.add y.1) (x.2.add y.2) else
      match bitsFor x.2 with
      | some n => if pw (Nat.max m n) - 1 ≤ k.max then gen fs .or k x y (.of 0 (pw (Nat.max m n) - 1)) else gen fs .or k x y (rng k)
      | none => gen fs .or k x y (rng k)
  | none => gen fs .or k x y (rng k)
def andNotR (k : IntKind) (x y : Rz) : Rz :=
  match x.2.hi with
  | some h => if nonneg x.2 ∧ h ≤ k.max then gen fs .andNot k x y (.of 0 h) else gen fs .andNot k x y (rng k)
  | none => gen fs .andNot k x y (rng k)
/-- The highest bit turned. -/
def xorR (k : IntKind) (x y : Rz) : Rz :=
  match k, y.1.isC with
  | .u64, some c => if c = 9223372036854775808 then wrapR fs .u64 (x.1.addc c) (x.2.addc c) else gen fs .xor .u64 x y (rng .u64)
  | k, _ => gen fs .xor k x y (rng k)
def boolR (e : E) : Rz :=
  match e with
  | .lit n => (⟨n, []⟩, .one n)
  | e => match known fs e with
    | some true => if e.isB then (⟨1, []⟩, .one 1) else atomR fs e .top
    | some false => (⟨0, []⟩, .one 0)
    | none => atomR fs e (if e.isB then .of 0 1 else .top)
def outB (b : Bnd) : Bool := (match b.lo with | some n => decide (0 < n) | none => false) || match b.hi with | some n => decide (n < 0) | none => false
def eq1 (e : E) (n : Int) : E := if e.isB then (if n = 0 then .bin .eq .i64 e (.lit 0) else if n = 1 then e else .lit 0) else .bin .eq .i64 e (.lit n)
def eqC (x y : Rz) : E :=
  let d := subB x y
  match d.1.l with
  | [] => if d.1.c = 0 then .lit 1 else .lit 0
  | l => if outB (d.2.meet (linBnd fs d.1)) then .lit 0 else
    match l with
    | [(k, e)] => if k = 0 then .bin .eq .i64 x.1.toE y.1.toE else if d.1.c % k = 0 then eq1 e (-(d.1.c / k)) else .lit 0
    | _ => if pos1 l then .bin .eq .i64 (partE l) (.lit (-d.1.c)) else .bin .eq .i64 (partE (mulL (-1) l)) (.lit d.1.c)
def negB (b : Bnd) : Bool := match b.hi with | some n => decide (n < 0) | none => false
def ltC (x y : Rz) : E :=
  let d := subB x y
  match d.1.l with
  | [] => if d.1.c < 0 then .lit 1 else .lit 0
  | l => let b := d.2.meet (linBnd fs d.1)
    if negB b then .lit 1 else if nonneg b then .lit 0 else
    match l with
    | [(k, e)] => if 0 < k then .bin .lt .i64 e (.lit (-(d.1.c.fdiv k))) else if k < 0 then .bin .lt .i64 (.lit (d.1.c.fdiv (-k))) e else .bin .lt .i64 x.1.toE y.1.toE
    | _ => if pos1 l then .bin .lt .i64 (partE l) (.lit (-d.1.c)) else .bin .lt .i64 (.lit d.1.c) (partE (mulL (-1) l))
def bandC (x y : Rz) : E :=
  match x.1.isC, y.1.isC with
  | some a, some b => if a = 0 then .lit 0 else if b = 0 then .lit 0 else .lit 1
  | some a, _ => if a = 0 then .lit 0 else if y.1.toE.isB then y.1.toE else .bin .band .i64 (.lit a) y.1.toE
  | _, some b => if b = 0 then .lit 0 else if x.1.toE.isB then x.1.toE else .bin .band .i64 x.1.toE (.lit b)
  | none, none => .bin .band .i64 x.1.toE y.1.toE
def minR (k : IntKind) (x y : Rz) : Rz :=
  let d := subB x y
  let b := d.2.meet (linBnd fs d.1)
  if nonneg (b.scl (-1)) then x else if nonneg b then y else gen fs .min k x y ⟨match x.2.lo, y.2.lo with | some a, some c => some (if a ≤ c then a else c) | _, _ => none, match x.2.hi, y.2.hi with | some a, some c => some (if a ≤ c then a else c) | some a, none => some a | none, c => c⟩
def maxR (k : IntKind) (x y : Rz) : Rz :=
  let d := subB x y
  let b := d.2.meet (linBnd fs d.1)
  if nonneg (b.scl (-1)) then y else if nonneg b then x else gen fs .max k x y ⟨match x.2.lo, y.2.lo with | some a, some c => some (if a ≤ c then c else a) | some a, none => some a | none, c => c, match x.2.hi, y.2.hi with | some a, some c => some (if a ≤ c then c else a) | _, _ => none⟩
def mulR (k : IntKind) (x y : Rz) : Rz :=
  match x.1.isC with
  | some c => wrapR fs k (y.1.scl c) (y.2.scl c)
  | none => match y.1.isC with
    | some c => wrapR fs k (x.1.scl c) (x.2.scl c)
    | none => gen fs .mul k x y (rng k)
def shlR (k : IntKind) (x y : Rz) : Rz :=
  match y.1.isC with
  | some c => let m := pw (Nat.min c.toNat k.bits); wrapR fs k (x.1.scl m) (x.2.scl m)
  | none => gen fs .shl k x y (rng k)
def shrR (k : IntKind) (x y : Rz) : Rz :=
  match y.1.isC with
  | some c => fdivR fs (pw (Nat.min c.toNat k.bits)) depth x.1 x.2
  | none => gen fs .shr k x y .top
def binR (o : BOp) (k : IntKind) (x y : Rz) : Rz :=
  match o with
  | .add => wrapR fs k (x.1.add y.1) (x.2.add y.2)
  | .sub => wrapR fs k (subB x y).1 (subB x y).2
  | .mul => mulR fs k x y
  | .quo => quoR fs k x y
  | .rem => remR fs k x y
  | .and => andR fs k x y
  | .or => orR fs k x y
  | .xor => xorR fs k x y
  | .andNot => andNotR fs k x y
  | .shl => shlR fs k x y
  | .shr => shrR fs k x y
  | .conv => wrapR fs k x.1 x.2
  | .eq => boolR fs (eqC fs x y)
  | .lt => boolR fs (ltC fs x y)
  | .band => boolR fs (bandC x y)
  | .min => minR fs k x y
  | .max => maxR fs k x y
  | .zadd => fin fs (x.1.add y.1) (x.2.add y.2)
  | .zmul => match x.1.isC with
    | some c => fin fs (y.1.scl c) (y.2.scl c)
    | none => gen fs .zmul k x y .top
  | .zfdiv => match y.1.isC with
    | some c => if 0 < c then fdivR fs c depth x.1 x.2 else gen fs .zfdiv k x y .top
    | none => gen fs .zfdiv k x y .top
  | .zrng => gen fs .zrng k x y .top
mutual
def ana : E → Rz
  | .lit n => (⟨n, []⟩, .one n)
  | .var i => atomR fs (.var i) .top
  | .rd a f i => atomR fs (.rd a f (ana i).1.toE) .top
  | .app f j l => atomR fs (.app f j (anas l)) .top
  | .bin o k a b => binR fs o k (ana a) (ana b)
def anas : List E → List E
  | [] => []
  | e :: l => (ana e).1.toE :: anas l
end
def canon (e : E) : E := (ana fs e).1.toE
end

section
variable {ρ : Env} {fs : List (E × Bool)} {x y : Rz} {a b : Int}
theorem gen_ok (hf : FsOk ρ fs) (hx : Rz.ok ρ x a) (hy : Rz.ok ρ y b) (o : BOp) (k : IntKind) {bd : Bnd} (h : bd.has (o.ev k a b)) : Rz.ok ρ (gen fs o k x y bd) (o.ev k a b) := by
  refine atomR_ok hf ?_ h
  show o.ev k (x.1.toE.ev ρ) (y.1.toE.ev ρ) = _
  rw [Lin.toE_ev, Lin.toE_ev, hx.1, hy.1]
theorem rng_has {o : BOp} {k : IntKind} {a b : Int} (h : ∃ c, o.ev k a b = k.wrap c) : (rng k).has (o.ev k a b) := by
  obtain ⟨c, hc⟩ := h
  rw [hc]
  exact Bnd.of_has (wrap_range k c).1 (wrap_range k c).2
theorem sub_ok (hx : Rz.ok ρ x a) (hy : Rz.ok ρ y b) : (subB x y).1.ev ρ = a - b ∧ (subB x y).2.has (a - b) := by
  refine ⟨?_, ?_⟩
  · simp only [subB, Lin.ev_add, Lin.ev_scl, hx.1, hy.1]; omega
  · have := Bnd.add_has hx.2 (Bnd.scl_has (k := -1) hy.2)
    rwa [show a + -1 * b = a - b by omega] at this
theorem subM_ok (hf : FsOk ρ fs) (hx : Rz.ok ρ x a) (hy : Rz.ok ρ y b) : ((subB x y).2.meet (linBnd fs (subB x y).1)).has (a - b) := by
  have h := sub_ok hx hy
  exact Bnd.meet_has h.2 (by have := linBnd_has hf (subB x y).1; rwa [h.1] at this)
theorem quoR_ok (hf : FsOk ρ fs) (hx : Rz.ok ρ x a) (hy : Rz.ok ρ y b) (k : IntKind) : Rz.ok ρ (quoR fs k x y) (BOp.quo.ev k a b) := by
  have hg : Rz.ok ρ (gen fs .quo k x y (rng k)) (BOp.quo.ev k a b) := gen_ok hf hx hy _ _ (rng_has ⟨_, rfl⟩)
  unfold quoR
  split
  · rename_i c hc
    obtain rfl : b = c := hy.1 ▸ Lin.isC_spec hc
    split
    · rename_i hc0
      split
      · rename_i hn
        have := fdivR_ok hf depth b _ _ _ hc0 hx.1 hx.2
        show Rz.ok ρ _ (k.wrap (a.tdiv b))
        rw [tdiv_nonneg (nonneg_spec hx.2 hn) hc0]
        exact wrapR_ok hf k this.1 this.2
      · split
        · rename_i hd
          have he := divides_spec (ρ := ρ) hd
          rw [hx.1] at he
          show Rz.ok ρ _ (k.wrap (a.tdiv b))
          have e2 : a.tdiv b = (x.1.quo b).ev ρ := by rw [he, tdiv_exact hc0]
          rw [e2]
          refine wrapR_ok hf k rfl ?_
          have := Bnd.fdiv_has hc0 hx.2
          rwa [he, show b * (x.1.quo b).ev ρ = b * (x.1.quo b).ev ρ + 0 by omega, fdiv_add_mul hc0, show (0 : Int).fdiv b = 0 by simp, Int.add_zero] at this
        · exact hg
    · exact hg
  · exact hg
theorem remR_ok (hf : FsOk ρ fs) (hx : Rz.ok ρ x a) (hy : Rz.ok ρ y b) (k : IntKind) : Rz.ok ρ (remR fs k x y) (BOp.rem.ev k a b) := by
  unfold remR
  split
  · rename_i c hc
    obtain rfl : b = c := hy.1 ▸ Lin.isC_spec hc
    split
    · rename_i hc0
      have hbd := tmod_bnd a hc0
      split
      · rename_i hn
        have := fdivR_ok hf depth b _ _ _ hc0 hx.1 hx.2
        show Rz.ok ρ _ (a.tmod b)
        refine fin_ok hf ?_ (Bnd.of_has (Int.tmod_nonneg b (nonneg_spec hx.2 hn)) hbd.2)
        rw [Lin.ev_add, Lin.ev_scl, this.1, hx.1, tmod_nonneg (nonneg_spec hx.2 hn) hc0, Int.neg_mul]
        omega
      · split
        · rename_i hd
          have he := divides_spec (ρ := ρ) hd
          rw [hx.1] at he
          show Rz.ok ρ _ (a.tmod b)
          rw [he, tmod_exact]
          exact fin_ok hf (by simp [Lin.ev, evL]) (Bnd.one_has 0)
        · exact gen_ok hf hx hy _ _ (Bnd.of_has hbd.1 hbd.2)
    · exact gen_ok hf hx hy _ _ (Bnd.top_has _)
  · exact gen_ok hf hx hy _ _ (Bnd.top_has _)
theorem andR_ok (hf : FsOk ρ fs) (hx : Rz.ok ρ x a) (hy : Rz.ok ρ y b) (k : IntKind) : Rz.ok ρ (andR fs k x y) (BOp.and.ev k a b) := by
  unfold andR
  split
  · rename_i c hc
    obtain rfl : b = c := hy.1 ▸ Lin.isC_spec hc
    split
    · rename_i hc0
      have hbd := and_bnd k a hc0.1 hc0.2
      have hg : Rz.ok ρ (gen fs .and k x y (.of 0 b)) (BOp.and.ev k a b) := gen_ok hf hx hy _ _ (Bnd.of_has hbd.1 hbd.2)
      split
      · rename_i m hm
        have hm' := isMask_spec hm
        refine fin_ok hf ?_ (Bnd.of_has hbd.1 hbd.2)
        rw [Lin.ev_add, Lin.ev_scl, (fdivR_ok hf depth _ _ _ _ (pw_pos m) hx.1 hx.2).1, hx.1, hm', and_mask k a (by omega), Int.neg_mul]
        rfl
      · split
        · rename_i k' m ho
          split
          · rename_i hk
            obtain ⟨h1, rfl⟩ := hk
            obtain rfl := kTag_inj h1
            obtain ⟨z, hz⟩ := orOf_spec (ρ := ρ) ho
            rw [hx.1] at hz
            rw [hz, and_or k z hc0.1 hc0.2]
            exact fin_ok hf (by simp [Lin.ev, evL]) (Bnd.one_has _)
          · exact hg
        · split
          · rename_i k' m ho
            split
            · rename_i hk
              obtain ⟨h1, rfl⟩ := hk
              obtain rfl := kTag_inj h1
              obtain ⟨z, hz⟩ := andNotOf_spec (ρ := ρ) ho
              rw [hx.1] at hz
              rw [hz, and_andNot k z]
              exact fin_ok hf (by simp [Lin.ev, evL]) (Bnd.one_has _)
            · exact hg
          · exact hg
    · exact gen_ok hf hx hy _ _ (rng_has ⟨_, rfl⟩)
  · exact gen_ok hf hx hy _ _ (rng_has ⟨_, rfl⟩)
theorem pw_nat (m : Nat) : pw m = ((2 ^ m : Nat) : Int) := rfl
theorem orR_ok (hf : FsOk ρ fs) (hx : Rz.ok ρ x a) (hy : Rz.ok ρ y b) (k : IntKind) : Rz.ok ρ (orR fs k x y) (BOp.or.ev k a b) := by
  have hg : Rz.ok ρ (gen fs .or k x y (rng k)) (BOp.or.ev k a b) := gen_ok hf hx hy _ _ (rng_has ⟨_, rfl⟩)
  unfold orR
  split
  · rename_i m hm
    have hm' := bitsFor_spec hy.2 hm
    split
    · rename_i hd
      have he := divides_spec (ρ := ρ) hd.2
      rw [hx.1] at he
      rw [or_disjoint k hd.1 he hm'.1 hm'.2]
      exact wrapR_ok hf k (by rw [Lin.ev_add, hx.1, hy.1]) (Bnd.add_has hx.2 hy.2)
    · split
      · rename_i n hn
        have hn' := bitsFor_spec hx.2 hn
        split
        · rename_i hle
          have l1 : (2 : Nat) ^ m ≤ 2 ^ Nat.max m n := Nat.pow_le_pow_right (by decide) (Nat.le_max_left m n)
          have l2 : (2 : Nat) ^ n ≤ 2 ^ Nat.max m n := Nat.pow_le_pow_right (by decide) (Nat.le_max_right m n)
          rw [pw_nat] at hle
          have := or_bnd k hle hn'.1 (by omega) hm'.1 (by omega)
          exact gen_ok hf hx hy _ _ (Bnd.of_has this.1 this.2)
        · exact hg
      · exact hg
  · exact hg
theorem andNotR_ok (hf : FsOk ρ fs) (hx : Rz.ok ρ x a) (hy : Rz.ok ρ y b) (k : IntKind) : Rz.ok ρ (andNotR fs k x y) (BOp.andNot.ev k a b) := by
  have hg : Rz.ok ρ (gen fs .andNot k x y (rng k)) (BOp.andNot.ev k a b) := gen_ok hf hx hy _ _ (rng_has ⟨_, rfl⟩)
  unfold andNotR
  split
  · rename_i h hh
    split
    · rename_i hc
      have := andNot_bnd k b (nonneg_spec hx.2 hc.1) (hx.2.2 _ hh) hc.2
      exact gen_ok hf hx hy _ _ (Bnd.of_has this.1 this.2)
    · exact hg
  · exact hg
theorem nat_xor63 (a : Nat) (h : a < 2 ^ 64) : a ^^^ 2 ^ 63 = if a < 2 ^ 63 then a + 2 ^ 63 else a - 2 ^ 63 := by
  have h1 : (a ^^^ 2 ^ 63) % 2 ^ 63 = a % 2 ^ 63 := by
    rw [Nat.xor_mod_two_pow, Nat.mod_self, Nat.xor_zero]
  have h2 : (a ^^^ 2 ^ 63) / 2 ^ 63 = a / 2 ^ 63 ^^^ 1 := by
    rw [Nat.xor_div_two_pow, Nat.div_self (by omega)]
  by_cases hl : a < 2 ^ 63
  · rw [if_pos hl]
    rw [Nat.div_eq_of_lt hl] at h2
    have : (0 ^^^ 1 : Nat) = 1 := rfl
    omega
  · rw [if_neg hl]
    have h3 : a / 2 ^ 63 = 1 := by omega
    rw [h3] at h2
    have : (1 ^^^ 1 : Nat) = 0 := rfl
    omega
theorem xor_top (x : Int) : BOp.xor.ev .u64 x 9223372036854775808 = IntKind.u64.wrap (x + 9223372036854775808) := by
  have hw : ∀ n : Int, IntKind.u64.wrap n = n % 18446744073709551616 := fun n => by simp [IntKind.wrap, IntKind.bits, IntKind.signed]
  have hx := ofInt_toNat 64 x
  have hlt := (BitVec.ofInt 64 x).isLt
  show IntKind.u64.wrap ((BitVec.ofInt 64 x ^^^ BitVec.ofInt 64 9223372036854775808).toNat : Nat) = _
  rw [hw, hw, BitVec.toNat_xor, show (BitVec.ofInt 64 9223372036854775808).toNat = 2 ^ 63 by decide, nat_xor63 _ hlt]
  have e1 : ((2 ^ 64 : Nat) : Int) = 18446744073709551616 := by decide
  rw [e1] at hx
  generalize (BitVec.ofInt 64 x).toNat = a at *
  split <;> omega
theorem xorR_ok (hf : FsOk ρ fs) (hx : Rz.ok ρ x a) (hy : Rz.ok ρ y b) (k : IntKind) : Rz.ok ρ (xorR fs k x y) (BOp.xor.ev k a b) := by
  unfold xorR
  split
  · rename_i c hc
    obtain rfl : b = c := hy.1 ▸ Lin.isC_spec hc
    split
    · rename_i h0
      subst h0
      rw [xor_top]
      exact wrapR_ok hf .u64 (by rw [Lin.ev_addc, hx.1]) (Bnd.addc_has hx.2)
    · exact gen_ok hf hx hy _ _ (rng_has ⟨_, rfl⟩)
  · exact gen_ok hf hx hy _ _ (rng_has ⟨_, rfl⟩)
theorem boolR_ok (hf : FsOk ρ fs) {e : E} {v : Int} (h : e.ev ρ = v) : Rz.ok ρ (boolR fs e) v := by
  unfold boolR
  split
  · rename_i n
    subst h
    exact ⟨by simp [Lin.ev, evL, E.ev], Bnd.one_has n⟩
  · split
    · rename_i hk
      split
      · rename_i hb
        have h1 := (known_spec hf hk).2 rfl
        have h2 := E.isB_ev ρ hb
        have : v = 1 := by rcases h2 with h2 | h2 <;> omega
        subst this
        exact ⟨by simp [Lin.ev, evL], Bnd.one_has 1⟩
      · exact atomR_ok hf h (Bnd.top_has _)
    · rename_i hk
      have h1 := known_spec hf hk
      have : v = 0 := by
        subst h
        by_cases h0 : E.ev ρ e = 0
        · exact h0
        · exact absurd (h1.1 h0) (by decide)
      subst this
      exact ⟨by simp [Lin.ev, evL], Bnd.one_has 0⟩
    · refine atomR_ok hf h ?_
      split
      · rename_i hb
        have h2 := E.isB_ev ρ hb
        exact Bnd.of_has (by rcases h2 with h2 | h2 <;> omega) (by rcases h2 with h2 | h2 <;> omega)
      · exact Bnd.top_has _
theorem outB_spec {b : Bnd} {v : Int} (h : b.has v) (ho : outB b = true) : v ≠ 0 := by
  unfold outB at ho
  rw [Bool.or_eq_true] at ho
  rcases ho with ho | ho
  · split at ho
    · rename_i n hn
      have := h.1 n hn
      simp at ho; omega
    · cases ho
  · split at ho
    · rename_i n hn
      have := h.2 n hn
      simp at ho; omega
    · cases ho
theorem negB_spec {b : Bnd} {v : Int} (h : b.has v) (ho : negB b = true) : v < 0 := by
  unfold negB at ho
  split at ho
  · rename_i n hn
    have := h.2 n hn
    simp at ho; omega
  · cases ho
theorem eqV (u v : Int) : BOp.eq.ev .i64 u v = if u = v then 1 else 0 := rfl
theorem eq1_ev (ρ : Env) (e : E) (n : Int) : (eq1 e n).ev ρ = if e.ev ρ = n then 1 else 0 := by
  unfold eq1
  split
  · rename_i hb
    rcases E.isB_ev ρ hb with h | h <;> by_cases h0 : n = 0 <;> by_cases h1 : n = 1 <;> simp [h, h0, h1, E.ev, BOp.ev] <;> omega
  · rfl
theorem eqC_ok (hf : FsOk ρ fs) (hx : Rz.ok ρ x a) (hy : Rz.ok ρ y b) (k : IntKind) : (eqC fs x y).ev ρ = BOp.eq.ev k a b := by
  have hs := sub_ok hx hy
  have hm := subM_ok hf hx hy
  show _ = if a = b then (1 : Int) else 0
  have hiff : a = b ↔ (subB x y).1.ev ρ = 0 := by rw [hs.1]; omega
  unfold eqC
  simp only
  split
  · rename_i hl
    have he : (subB x y).1.ev ρ = (subB x y).1.c := by simp [Lin.ev, hl, evL]
    split
    · rename_i h; rw [if_pos (by rw [hiff, he]; exact h)]; rfl
    · rename_i h; rw [if_neg (by rw [hiff, he]; exact h)]; rfl
  · rename_i l hl
    split
    · rename_i ho
      have := outB_spec hm ho
      rw [if_neg (by omega)]; rfl
    · split
      · rename_i k' e hl'
        have he : (subB x y).1.ev ρ = (subB x y).1.c + k' * e.ev ρ := by simp only [Lin.ev, hl', evL]; omega
        split
        · show (if _ then (1 : Int) else 0) = _
          rw [Lin.toE_ev, Lin.toE_ev, hx.1, hy.1]
        · rename_i hk0
          split
          · rename_i hd
            rw [eq1_ev]
            have hdiv : (subB x y).1.c = k' * ((subB x y).1.c / k') := by
              have := Int.mul_ediv_add_emod (subB x y).1.c k'
              omega
            have : a = b ↔ e.ev ρ = -((subB x y).1.c / k') := by
              rw [hiff, he]
              generalize (subB x y).1.c / k' = q at *
              rw [hdiv, ← Int.mul_add, Int.mul_eq_zero]
              constructor
              · intro h; rcases h with h | h
                · exact absurd h hk0
                · omega
              · intro h; right; omega
            simp only [this]
          · rename_i hd
            rw [if_neg]
            · rfl
            · rw [hiff, he]
              intro h0
              apply hd
              have : (subB x y).1.c = k' * (-(e.ev ρ)) := by rw [Int.mul_neg]; omega
              rw [this]; exact Int.mul_emod_right ..
      · have he : (subB x y).1.ev ρ = (subB x y).1.c + evL ρ (subB x y).1.l := rfl
        split
        · show (if (partE _).ev ρ = -(subB x y).1.c then (1 : Int) else 0) = _
          rw [partE_ev]
          have : a = b ↔ evL ρ (subB x y).1.l = -(subB x y).1.c := by rw [hiff, he]; omega
          simp only [this]
        · show (if (partE _).ev ρ = (subB x y).1.c then (1 : Int) else 0) = _
          rw [partE_ev, mulL_ev]
          have : a = b ↔ -1 * evL ρ (subB x y).1.l = (subB x y).1.c := by rw [hiff, he]; omega
          simp only [this]
theorem ltC_ok (hf : FsOk ρ fs) (hx : Rz.ok ρ x a) (hy : Rz.ok ρ y b) (k : IntKind) : (ltC fs x y).ev ρ = BOp.lt.ev k a b := by
  have hs := sub_ok hx hy
  have hm := subM_ok hf hx hy
  show _ = if a < b then (1 : Int) else 0
  have hiff : a < b ↔ (subB x y).1.ev ρ < 0 := by rw [hs.1]; omega
  unfold ltC
  simp only
  split
  · rename_i hl
    have he : (subB x y).1.ev ρ = (subB x y).1.c := by simp [Lin.ev, hl, evL]
    split
    · rename_i h; rw [if_pos (by rw [hiff, he]; exact h)]; rfl
    · rename_i h; rw [if_neg (by rw [hiff, he]; exact h)]; rfl
  · rename_i l hl
    split
    · rename_i ho
      have := negB_spec hm ho
      rw [if_pos (by omega)]; rfl
    · split
      · rename_i ho
        have := nonneg_spec hm ho
        rw [if_neg (by omega)]; rfl
      · split
        · rename_i k' e hl'
          have he : (subB x y).1.ev ρ = (subB x y).1.c + k' * e.ev ρ := by simp only [Lin.ev, hl', evL]; omega
          split
          · rename_i hk
            show (if e.ev ρ < -((subB x y).1.c.fdiv k') then (1 : Int) else 0) = _
            have : a < b ↔ e.ev ρ < -((subB x y).1.c.fdiv k') := by
              rw [hiff, he, Int.fdiv_eq_ediv_of_nonneg _ (by omega)]
              generalize (subB x y).1.c = c at *
              have h1 := Int.mul_ediv_add_emod c k'
              have h2 := Int.emod_nonneg c (show k' ≠ 0 by omega)
              have h3 := Int.emod_lt_of_pos c hk
              have h4 : c + k' * e.ev ρ = k' * (c / k' + e.ev ρ) + c % k' := by rw [Int.mul_add]; omega
              constructor
              · intro h
                have h5 : k' * (c / k' + e.ev ρ) < 0 := by omega
                have : c / k' + e.ev ρ < 0 := by
                  rcases Int.lt_or_le (c / k' + e.ev ρ) 0 with h | h
                  · exact h
                  · have := Int.mul_nonneg (show 0 ≤ k' by omega) h; omega
                omega
              · intro h
                have h6 : k' * (c / k' + e.ev ρ) ≤ k' * (-1) := Int.mul_le_mul_of_nonneg_left (by omega) (by omega)
                omega
            simp only [this]
          · split
            · rename_i hk
              show (if (subB x y).1.c.fdiv (-k') < e.ev ρ then (1 : Int) else 0) = _
              have : a < b ↔ (subB x y).1.c.fdiv (-k') < e.ev ρ := by
                rw [hiff, he, Int.fdiv_eq_ediv_of_nonneg _ (by omega)]
                generalize (subB x y).1.c = c at *
                generalize hm' : -k' = m
                have hk' : k' = -m := by omega
                subst hk'
                have hm0 : 0 < m := by omega
                have h1 := Int.mul_ediv_add_emod c m
                have h2 := Int.emod_nonneg c (show m ≠ 0 by omega)
                have h3 := Int.emod_lt_of_pos c hm0
                have h4 : c + -m * e.ev ρ = m * (c / m - e.ev ρ) + c % m := by rw [Int.mul_sub, Int.neg_mul]; omega
                rw [h4]
                constructor
                · intro h
                  have : c / m - e.ev ρ < 0 := by
                    rcases Int.lt_or_le (c / m - e.ev ρ) 0 with h | h
                    · exact h
                    · have := Int.mul_nonneg (show 0 ≤ m by omega) h; omega
                  omega
                · intro h
                  have h6 : m * (c / m - e.ev ρ) ≤ m * (-1) := Int.mul_le_mul_of_nonneg_left (by omega) (by omega)
                  omega
              simp only [this]
            · show (if _ then (1 : Int) else 0) = _
              rw [Lin.toE_ev, Lin.toE_ev, hx.1, hy.1]
        · have he : (subB x y).1.ev ρ = (subB x y).1.c + evL ρ (subB x y).1.l := rfl
          split
          · show (if (partE _).ev ρ < -(subB x y).1.c then (1 : Int) else 0) = _
            rw [partE_ev]
            have : a < b ↔ evL ρ (subB x y).1.l < -(subB x y).1.c := by rw [hiff, he]; omega
            simp only [this]
          · show (if (subB x y).1.c < (partE _).ev ρ then (1 : Int) else 0) = _
            rw [partE_ev, mulL_ev]
            have : a < b ↔ (subB x y).1.c < -1 * evL ρ (subB x y).1.l := by rw [hiff, he]; omega
            simp only [this]
theorem bandC_ok (hx : Rz.ok ρ x a) (hy : Rz.ok ρ y b) (k : IntKind) : (bandC x y).ev ρ = BOp.band.ev k a b := by
  have ex : x.1.toE.ev ρ = a := by rw [Lin.toE_ev, hx.1]
  have ey : y.1.toE.ev ρ = b := by rw [Lin.toE_ev, hy.1]
  show _ = if a ≠ 0 ∧ b ≠ 0 then (1 : Int) else 0
  unfold bandC
  cases hxc : x.1.isC with
  | some c =>
    obtain rfl : a = c := hx.1 ▸ Lin.isC_spec hxc
    cases hyc : y.1.isC with
    | some c =>
      obtain rfl : b = c := hy.1 ▸ Lin.isC_spec hyc
      simp only
      split
      · rename_i h; simp [h, E.ev]
      · rename_i h
        split
        · rename_i h2; simp [h2, E.ev]
        · rename_i h2; simp [h, h2, E.ev]
    | none =>
    simp only
    split
    · rename_i h; simp [h, E.ev]
    · rename_i h
      split
      · rename_i hb
        have := E.isB_ev ρ hb
        rw [ey] at this ⊢
        rcases this with h1 | h1 <;> simp [h, h1]
      · show (if a ≠ 0 ∧ y.1.toE.ev ρ ≠ 0 then (1 : Int) else 0) = _
        rw [ey]
  | none =>
    cases hyc : y.1.isC with
    | some c =>
      obtain rfl : b = c := hy.1 ▸ Lin.isC_spec hyc
      simp only
      split
      · rename_i h; simp [h, E.ev]
      · rename_i h
        split
        · rename_i hb
          have := E.isB_ev ρ hb
          rw [ex] at this ⊢
          rcases this with h1 | h1 <;> simp [h, h1]
        · show (if x.1.toE.ev ρ ≠ 0 ∧ b ≠ 0 then (1 : Int) else 0) = _
          rw [ex]
    | none =>
      show (if x.1.toE.ev ρ ≠ 0 ∧ y.1.toE.ev ρ ≠ 0 then (1 : Int) else 0) = _
      rw [ex, ey]
theorem minR_ok (hf : FsOk ρ fs) (hx : Rz.ok ρ x a) (hy : Rz.ok ρ y b) (k : IntKind) : Rz.ok ρ (minR fs k x y) (BOp.min.ev k a b) := by
  have hm := subM_ok hf hx hy
  unfold minR
  simp only
  split
  · rename_i h
    have := nonneg_spec (Bnd.scl_has (k := -1) hm) h
    show Rz.ok ρ _ (if b < a then b else a)
    rw [if_neg (by omega)]; exact hx
  · split
    · rename_i h
      have := nonneg_spec hm h
      show Rz.ok ρ _ (if b < a then b else a)
      split
      · exact hy
      · have : a = b := by omega
        subst this; exact hy
    · refine gen_ok hf hx hy _ _ ?_
      show Bnd.has _ (if b < a then b else a)
      constructor
      · intro n hn
        simp only at hn
        split at hn
        · rename_i u v hu hv
          have h1 := hx.2.1 _ hu
          have h2 := hy.2.1 _ hv
          obtain rfl := Option.some.inj hn
          split <;> split <;> omega
        · cases hn
      · intro n hn
        simp only at hn
        split at hn
        · rename_i u v hu hv
          have h1 := hx.2.2 _ hu
          have h2 := hy.2.2 _ hv
          obtain rfl := Option.some.inj hn
          split <;> split <;> omega
        · rename_i u hu hv
          have h1 := hx.2.2 _ hu
          obtain rfl := Option.some.inj hn
          split <;> omega
        · have h2 := hy.2.2 _ hn
          split <;> omega
theorem maxR_ok (hf : FsOk ρ fs) (hx : Rz.ok ρ x a) (hy : Rz.ok ρ y b) (k : IntKind) : Rz.ok ρ (maxR fs k x y) (BOp.max.ev k a b) := by
  have hm := subM_ok hf hx hy
  unfold maxR
  simp only
  split
  · rename_i h
    have := nonneg_spec (Bnd.scl_has (k := -1) hm) h
    show Rz.ok ρ _ (if b > a then b else a)
    split
    · exact hy
    · have : a = b := by omega
      subst this; exact hy
  · split
    · rename_i h
      have := nonneg_spec hm h
      show Rz.ok ρ _ (if b > a then b else a)
      rw [if_neg (by omega)]; exact hx
    · refine gen_ok hf hx hy _ _ ?_
      show Bnd.has _ (if b > a then b else a)
      constructor
      · intro n hn
        simp only at hn
        split at hn
        · rename_i u v hu hv
          have h1 := hx.2.1 _ hu
          have h2 := hy.2.1 _ hv
          obtain rfl := Option.some.inj hn
          split <;> split <;> omega
        · rename_i u hu hv
          have h1 := hx.2.1 _ hu
          obtain rfl := Option.some.inj hn
          split <;> omega
        · have h2 := hy.2.1 _ hn
          split <;> omega
      · intro n hn
        simp only at hn
        split at hn
        · rename_i u v hu hv
          have h1 := hx.2.2 _ hu
          have h2 := hy.2.2 _ hv
          obtain rfl := Option.some.inj hn
          split <;> split <;> omega
        · cases hn
theorem mulR_ok (hf : FsOk ρ fs) (hx : Rz.ok ρ x a) (hy : Rz.ok ρ y b) (k : IntKind) : Rz.ok ρ (mulR fs k x y) (BOp.mul.ev k a b) := by
  unfold mulR
  split
  · rename_i c hc
    obtain rfl : a = c := hx.1 ▸ Lin.isC_spec hc
    exact wrapR_ok hf k (by rw [Lin.ev_scl, hy.1]) (Bnd.scl_has hy.2)
  · split
    · rename_i c hc
      obtain rfl : b = c := hy.1 ▸ Lin.isC_spec hc
      refine wrapR_ok hf k (by rw [Lin.ev_scl, hx.1, Int.mul_comm]) ?_
      rw [Int.mul_comm a b]
      exact Bnd.scl_has hx.2
    · exact gen_ok hf hx hy _ _ (rng_has ⟨_, rfl⟩)
theorem shlR_ok (hf : FsOk ρ fs) (hx : Rz.ok ρ x a) (hy : Rz.ok ρ y b) (k : IntKind) : Rz.ok ρ (shlR fs k x y) (BOp.shl.ev k a b) := by
  unfold shlR
  split
  · rename_i c hc
    obtain rfl : b = c := hy.1 ▸ Lin.isC_spec hc
    simp only [BOp.ev, ← pw_eq]
    rw [Int.mul_comm a]
    exact wrapR_ok hf k (by rw [Lin.ev_scl, hx.1]) (Bnd.scl_has hx.2)
  · exact gen_ok hf hx hy _ _ (rng_has ⟨_, rfl⟩)
theorem shrR_ok (hf : FsOk ρ fs) (hx : Rz.ok ρ x a) (hy : Rz.ok ρ y b) (k : IntKind) : Rz.ok ρ (shrR fs k x y) (BOp.shr.ev k a b) := by
  unfold shrR
  split
  · rename_i c hc
    obtain rfl : b = c := hy.1 ▸ Lin.isC_spec hc
    simp only [BOp.ev, ← pw_eq]
    exact fdivR_ok hf depth _ _ _ _ (pw_pos _) hx.1 hx.2
  · exact gen_ok hf hx hy _ _ (Bnd.top_has _)
theorem binR_ok (hf : FsOk ρ fs) (hx : Rz.ok ρ x a) (hy : Rz.ok ρ y b) (o : BOp) (k : IntKind) : Rz.ok ρ (binR fs o k x y) (o.ev k a b) := by
  cases o <;> simp only [binR]
  case add => exact wrapR_ok hf k (by rw [Lin.ev_add, hx.1, hy.1]) (Bnd.add_has hx.2 hy.2)
  case sub => exact wrapR_ok hf k (sub_ok hx hy).1 (sub_ok hx hy).2
  case mul => exact mulR_ok hf hx hy k
  case quo => exact quoR_ok hf hx hy k
  case rem => exact remR_ok hf hx hy k
  case and => exact andR_ok hf hx hy k
  case or => exact orR_ok hf hx hy k
  case xor => exact xorR_ok hf hx hy k
  case andNot => exact andNotR_ok hf hx hy k
  case shl => exact shlR_ok hf hx hy k
  case shr => exact shrR_ok hf hx hy k
  case conv => exact wrapR_ok hf k hx.1 hx.2
  case eq => exact boolR_ok hf (eqC_ok hf hx hy k)
  case lt => exact boolR_ok hf (ltC_ok hf hx hy k)
  case band => exact boolR_ok hf (bandC_ok hx hy k)
  case min => exact minR_ok hf hx hy k
  case max => exact maxR_ok hf hx hy k
  case zadd => exact fin_ok hf (by rw [Lin.ev_add, hx.1, hy.1]; rfl) (Bnd.add_has hx.2 hy.2)
  case zmul =>
    split
    · rename_i c hc
      obtain rfl : a = c := hx.1 ▸ Lin.isC_spec hc
      exact fin_ok hf (by rw [Lin.ev_scl, hy.1]; rfl) (Bnd.scl_has hy.2)
    · exact gen_ok hf hx hy _ _ (Bnd.top_has _)
  case zfdiv =>
    cases hc : y.1.isC with
    | some c =>
      obtain rfl : b = c := hy.1 ▸ Lin.isC_spec hc
      by_cases h0 : 0 < b
      · simp only [h0, if_true]
        exact fdivR_ok hf depth _ _ _ _ h0 hx.1 hx.2
      · simp only [h0, if_false]
        exact gen_ok hf hx hy _ _ (Bnd.top_has _)
    | none => exact gen_ok hf hx hy _ _ (Bnd.top_has _)
  case zrng => exact gen_ok hf hx hy _ _ (Bnd.top_has _)
end
mutual
theorem ana_ok {ρ : Env} {fs : List (E × Bool)} (hf : FsOk ρ fs) : ∀ e : E, Rz.ok ρ (ana fs e) (e.ev ρ)
  | .lit n => by
    unfold ana
    exact ⟨by simp [Lin.ev, evL, E.ev], Bnd.one_has n⟩
  | .var i => by
    unfold ana
    exact atomR_ok hf rfl (Bnd.top_has _)
  | .rd a f i => by
    unfold ana
    refine atomR_ok hf ?_ (Bnd.top_has _)
    simp only [E.ev]
    rw [Lin.toE_ev, (ana_ok hf i).1]
  | .app f j l => by
    unfold ana
    refine atomR_ok hf ?_ (Bnd.top_has _)
    simp only [E.ev]
    rw [anas_ok hf l]
  | .bin o k a b => by
    unfold ana
    exact binR_ok hf (ana_ok hf a) (ana_ok hf b) o k
theorem anas_ok {ρ : Env} {fs : List (E × Bool)} (hf : FsOk ρ fs) : ∀ l : List E, E.evs ρ (anas fs l) = E.evs ρ l
  | [] => by unfold anas; rfl
  | e :: l => by
    unfold anas
    simp only [E.evs]
    rw [Lin.toE_ev, (ana_ok hf e).1, anas_ok hf l]
end
theorem canon_ev {ρ : Env} {fs : List (E × Bool)} (hf : FsOk ρ fs) (e : E) : (canon fs e).ev ρ = e.ev ρ := by
  unfold canon
  rw [Lin.toE_ev, (ana_ok hf e).1]
end Go.Proofs.YthbfjnmdjehljaaDoor.SX
