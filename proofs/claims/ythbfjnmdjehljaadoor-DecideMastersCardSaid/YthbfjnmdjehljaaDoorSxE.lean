/- Symbolic integers and values, and what they come to. Of no program. -/
import Derived.WalkKit
import Derived.OpenShut
namespace Go.Proofs.YthbfjnmdjehljaaDoor.SX
open Go

inductive BOp where
  | add | sub | mul | quo | rem | and | or | xor | andNot | shl | shr | conv | eq | lt | min | max | band | zadd | zmul | zfdiv | zrng

def BOp.tag : BOp → Nat
  | .add => 0 | .sub => 1 | .mul => 2 | .quo => 3 | .rem => 4 | .and => 5 | .or => 6 | .xor => 7 | .andNot => 8 | .shl => 9 | .shr => 10 | .conv => 11 | .eq => 12 | .lt => 13 | .min => 14 | .max => 15 | .band => 16 | .zadd => 17 | .zmul => 18 | .zfdiv => 19 | .zrng => 20
theorem BOp.tag_inj {a b : BOp} (h : a.tag = b.tag) : a = b := by cases a <;> cases b <;> first | rfl | (exfalso; revert h; decide)
def kTag : IntKind → Nat
  | .i8 => 0 | .i16 => 1 | .i32 => 2 | .i64 => 3 | .u8 => 4 | .u16 => 5 | .u32 => 6 | .u64 => 7
theorem kTag_inj {a b : IntKind} (h : kTag a = kTag b) : a = b := by cases a <;> cases b <;> first | rfl | (exfalso; revert h; decide)

def BOp.ev (o : BOp) (k : IntKind) (x y : Int) : Int :=
  match o with
  | .add => k.wrap (x + y)
  | .sub => k.wrap (x - y)
  | .mul => k.wrap (x * y)
  | .quo => k.wrap (x.tdiv y)
  | .rem => x.tmod y
  | .and => k.wrap (BitVec.ofInt k.bits x &&& BitVec.ofInt k.bits y).toNat
  | .or => k.wrap (BitVec.ofInt k.bits x ||| BitVec.ofInt k.bits y).toNat
  | .xor => k.wrap (BitVec.ofInt k.bits x ^^^ BitVec.ofInt k.bits y).toNat
  | .andNot => k.wrap (BitVec.ofInt k.bits x &&& ~~~BitVec.ofInt k.bits y).toNat
  | .shl => k.wrap (x * 2 ^ (Nat.min y.toNat k.bits))
  | .shr => x.fdiv (2 ^ (Nat.min y.toNat k.bits))
  | .conv => k.wrap x
  | .eq => if x = y then 1 else 0
  | .lt => if x < y then 1 else 0
  | .min => if y < x then y else x
  | .max => if y > x then y else x
  | .band => if x ≠ 0 ∧ y ≠ 0 then 1 else 0
  | .zadd => x + y
  | .zmul => x * y
  | .zfdiv => x.fdiv y
  | .zrng => if k.min ≤ x ∧ x ≤ k.max then 1 else 0

inductive E where
  | lit (n : Int)
  | var (i : Nat)
  | rd (a f : Nat) (i : E)
  | bin (o : BOp) (k : IntKind) (a b : E)
  | app (f j : Nat) (l : List E)

/-- The kind of what is read of an array by a number: 8 * field + the kind's tag. -/
def kOf (n : Nat) : IntKind :=
  match n % 8 with
  | 0 => .i8 | 1 => .i16 | 2 => .i32 | 3 => .i64 | 4 => .u8 | 5 => .u16 | 6 => .u32 | _ => .u64
theorem kOf_code (f : Nat) (k : IntKind) : kOf (8 * f + kTag k) = k := by
  cases k <;> simp [kOf, kTag]
structure Env where
  v : Nat → Int
  arr : Nat → Nat → Int → Int
  fn : Nat → Nat → List Int → Int

/-- What is read lies in its kind's range. -/
def Env.rd (ρ : Env) (a f : Nat) (i : Int) : Int := (kOf f).wrap (ρ.arr a f i)
theorem wf_iff (k : IntKind) (m : Int) : (Lit.int k m).wf = true ↔ k.min ≤ m ∧ m ≤ k.max := by
  cases k <;> simp [Lit.wf, IntKind.min, IntKind.max, IntKind.bits, IntKind.signed] <;> omega
theorem rd_rng (ρ : Env) (a f : Nat) (i : Int) : (kOf f).min ≤ ρ.rd a f i ∧ ρ.rd a f i ≤ (kOf f).max := (wf_iff _ _).1 (wf_wrap (kOf f) _)
mutual
def E.ev (ρ : Env) : E → Int
  | .lit n => n
  | .var i => ρ.v i
  | .rd a f i => ρ.rd a f (E.ev ρ i)
  | .bin o k a b => o.ev k (E.ev ρ a) (E.ev ρ b)
  | .app f j l => ρ.fn f j (E.evs ρ l)
def E.evs (ρ : Env) : List E → List Int
  | [] => []
  | e :: l => E.ev ρ e :: E.evs ρ l
end

mutual
def E.beq : E → E → Bool
  | .lit n, .lit m => n == m
  | .var i, .var j => i == j
  | .rd a f i, .rd b g j => a == b && f == g && E.beq i j
  | .bin o k a b, .bin p l c d => o.tag == p.tag && kTag k == kTag l && E.beq a c && E.beq b d
  | .app f j l, .app g i m => f == g && j == i && E.beqs l m
  | _, _ => false
def E.beqs : List E → List E → Bool
  | [], [] => true
  | a :: l, b :: m => E.beq a b && E.beqs l m
  | _, _ => false
end

mutual
theorem E.beq_eq : ∀ (a b : E), E.beq a b = true → a = b
  | .lit n, b, h => by cases b <;> simp [E.beq] at h; subst h; rfl
  | .var n, b, h => by cases b <;> simp [E.beq] at h; subst h; rfl
  | .rd a f i, b, h => by
    cases b <;> simp [E.beq] at h
    obtain ⟨⟨rfl, rfl⟩, h⟩ := h
    rw [E.beq_eq _ _ h]
  | .bin o k x y, b, h => by
    cases b <;> simp [E.beq] at h
    obtain ⟨⟨⟨h1, h2⟩, h3⟩, h4⟩ := h
    rw [BOp.tag_inj h1, kTag_inj h2, E.beq_eq _ _ h3, E.beq_eq _ _ h4]
  | .app f j l, b, h => by
    cases b <;> simp [E.beq] at h
    obtain ⟨⟨rfl, rfl⟩, h⟩ := h
    rw [E.beqs_eq _ _ h]
theorem E.beqs_eq : ∀ (a b : List E), E.beqs a b = true → a = b
  | [], b, h => by cases b <;> simp [E.beqs] at h; rfl
  | x :: l, b, h => by
    cases b <;> simp [E.beqs] at h
    rw [E.beq_eq _ _ h.1, E.beqs_eq _ _ h.2]
end

/-- An expression that is 0 or 1. -/
def E.isB : E → Bool
  | .bin .eq _ _ _ | .bin .lt _ _ _ | .bin .band _ _ _ => true
  | _ => false
theorem E.isB_ev {e : E} (ρ : Env) (h : e.isB = true) : e.ev ρ = 0 ∨ e.ev ρ = 1 := by
  unfold E.isB at h
  split at h <;> first | (simp only [E.ev, BOp.ev]; split <;> simp; done) | cases h

/-- The byte of a number at a bit. -/
def byteOf (x : E) (e : Nat) : E := .bin .conv .u8 (if e = 0 then x else .bin .shr .i64 x (.lit (Int.ofNat e))) (.lit 0)
def byteAt : E → Nat → E
  | .lit n, e => .lit ((n.fdiv (Int.ofNat (2 ^ e))) % 256)
  | .bin o k a b, e => match o, b with
    | .shr, .lit c => if 0 ≤ c ∧ c.toNat ≤ k.bits ∧ e + c.toNat ≤ 64 then byteAt a (e + c.toNat) else byteOf (.bin o k a b) e
    | .shl, .lit c => if 0 ≤ c ∧ c.toNat ≤ e ∧ e + 8 ≤ k.bits then byteAt a (e - c.toNat) else byteOf (.bin o k a b) e
    | .conv, _ => if e + 8 ≤ k.bits then byteAt a e else byteOf (.bin o k a b) e
    | _, _ => byteOf (.bin o k a b) e
  | x, e => byteOf x e
theorem wrap_u8 (x : Int) : IntKind.u8.wrap x = x % 256 := by simp [IntKind.wrap, IntKind.bits, IntKind.signed]
theorem byteOf_ev (ρ : Env) (x : E) {e : Nat} (he : e ≤ 64) : (byteOf x e).ev ρ = ((x.ev ρ).fdiv (2 ^ e)) % 256 := by
  unfold byteOf
  show IntKind.u8.wrap _ = _
  rw [wrap_u8]
  split
  · rename_i h; subst h; simp
  · show ((x.ev ρ).fdiv (2 ^ Nat.min (Int.ofNat e).toNat IntKind.i64.bits)) % 256 = _
    rw [show Nat.min (Int.ofNat e).toNat IntKind.i64.bits = e by show Nat.min e 64 = e; exact Nat.min_eq_left he]
theorem fdiv_pow (x : Int) (a b : Nat) : (x.fdiv (2 ^ a)).fdiv (2 ^ b) = x.fdiv (2 ^ (b + a)) := by
  have h1 : (0 : Int) < 2 ^ a := Int.pow_pos (by decide)
  have h2 : (0 : Int) < 2 ^ b := Int.pow_pos (by decide)
  have h3 : (0 : Int) < 2 ^ (b + a) := Int.pow_pos (by decide)
  rw [Int.fdiv_eq_ediv_of_nonneg _ (by omega), Int.fdiv_eq_ediv_of_nonneg _ (by omega), Int.fdiv_eq_ediv_of_nonneg _ (by omega), Int.ediv_ediv_of_nonneg (by omega), Int.pow_add, Int.mul_comm]
theorem wrap_emod (k : IntKind) (x : Int) : ∃ q : Int, k.wrap x = x + 2 ^ k.bits * q := by
  have h := Int.mul_ediv_add_emod x (2 ^ k.bits)
  unfold IntKind.wrap
  simp only
  split
  · exact ⟨-(x / 2 ^ k.bits) - 1, by rw [Int.mul_sub, Int.mul_neg, Int.mul_one]; omega⟩
  · exact ⟨-(x / 2 ^ k.bits), by rw [Int.mul_neg]; omega⟩
/-- What lies at a wrap's bits and above does not tell in the bytes below. -/
theorem byte_wrap (k : IntKind) (x : Int) {e : Nat} (h : e + 8 ≤ k.bits) : ((k.wrap x).fdiv (2 ^ e)) % 256 = (x.fdiv (2 ^ e)) % 256 := by
  obtain ⟨q, hq⟩ := wrap_emod k x
  have h1 : (0 : Int) < 2 ^ e := Int.pow_pos (by decide)
  have h2 : (2 : Int) ^ k.bits = 2 ^ e * (256 * 2 ^ (k.bits - e - 8)) := by
    rw [show (256 : Int) = 2 ^ 8 by rfl, ← Int.pow_add, ← Int.pow_add]; congr 1; omega
  rw [hq, h2, Int.fdiv_eq_ediv_of_nonneg _ (by omega), Int.fdiv_eq_ediv_of_nonneg _ (by omega), Int.mul_assoc, Int.add_mul_ediv_left _ _ (by omega), Int.mul_assoc, Int.add_mul_emod_self_left]
theorem byte_shl (x : Int) {c e : Nat} (h : c ≤ e) : ((x * 2 ^ c).fdiv (2 ^ e)) = x.fdiv (2 ^ (e - c)) := by
  have h1 : (0 : Int) < 2 ^ c := Int.pow_pos (by decide)
  rw [show e = (e - c) + c by omega, ← fdiv_pow, show (e - c) + c - c = e - c by omega]
  congr 1
  rw [Int.fdiv_eq_ediv_of_nonneg _ (by omega), Int.mul_ediv_cancel _ (by omega)]
theorem byteAt_ev (ρ : Env) : ∀ (x : E) (e : Nat), e ≤ 64 → (byteAt x e).ev ρ = ((x.ev ρ).fdiv (2 ^ e)) % 256
  | .lit n, e, h => by
    unfold byteAt
    show (n.fdiv (Int.ofNat (2 ^ e))) % 256 = _
    rw [show (Int.ofNat (2 ^ e)) = (2 : Int) ^ e by rw [Int.ofNat_eq_natCast, Int.natCast_pow]; rfl]
    rfl
  | .var i, e, h => by unfold byteAt; exact byteOf_ev ρ _ h
  | .rd a f i, e, h => by unfold byteAt; exact byteOf_ev ρ _ h
  | .app f j l, e, h => by unfold byteAt; exact byteOf_ev ρ _ h
  | .bin o k a b, e, h => by
    unfold byteAt
    split
    · rename_i c
      split
      · rename_i hc
        rw [byteAt_ev ρ a _ hc.2.2]
        show _ = (((a.ev ρ).fdiv (2 ^ Nat.min c.toNat k.bits)).fdiv (2 ^ e)) % 256
        rw [fdiv_pow, show Nat.min c.toNat k.bits = c.toNat from Nat.min_eq_left hc.2.1]
      · exact byteOf_ev ρ _ h
    · rename_i c
      split
      · rename_i hc
        rw [byteAt_ev ρ a _ (by omega)]
        show _ = ((k.wrap (a.ev ρ * 2 ^ Nat.min c.toNat k.bits)).fdiv (2 ^ e)) % 256
        rw [byte_wrap k _ hc.2.2, show Nat.min c.toNat k.bits = c.toNat from Nat.min_eq_left (by omega), byte_shl _ hc.2.1]
      · exact byteOf_ev ρ _ h
    · split
      · rename_i hc
        rw [byteAt_ev ρ a _ h]
        show _ = ((k.wrap (a.ev ρ)).fdiv (2 ^ e)) % 256
        rw [byte_wrap k _ hc]
      · exact byteOf_ev ρ _ h
    · exact byteOf_ev ρ _ h
def mk (o : BOp) (k : IntKind) (a b : E) : E :=
  match o, a, b with
  | o, .lit x, .lit y => .lit (o.ev k x y)
  | .conv, .lit x, _ => .lit (k.wrap x)
  | .conv, a, b => match k with
    | .u8 => byteAt a 0
    | k => .bin .conv k a b
  | .band, .lit x, b => if x = 0 then .lit 0 else if b.isB then b else .bin .band k (.lit x) b
  | .band, a, .lit x => if x = 0 then .lit 0 else if a.isB then a else .bin .band k a (.lit x)
  | .eq, a, b => if a.beq b then .lit 1 else .bin .eq k a b
  | .lt, a, b => if a.beq b then .lit 0 else .bin .lt k a b
  | o, a, b => .bin o k a b
theorem mk_ev (ρ : Env) (o : BOp) (k : IntKind) (a b : E) : (mk o k a b).ev ρ = o.ev k (a.ev ρ) (b.ev ρ) := by
  unfold mk
  split
  · rfl
  · rfl
  · split
    · rw [byteAt_ev ρ _ 0 (by decide)]
      show _ = IntKind.u8.wrap _
      rw [wrap_u8]; simp
    · rfl
  · rename_i x b _
    split
    · rename_i h; subst h; simp [E.ev, BOp.ev]
    · split
      · rename_i hx hb
        rcases E.isB_ev ρ hb with h | h <;> simp [E.ev, BOp.ev, h, hx]
      · rfl
  · rename_i a x _
    split
    · rename_i h; subst h; simp [E.ev, BOp.ev]
    · split
      · rename_i hx hb
        rcases E.isB_ev ρ hb with h | h <;> simp [E.ev, BOp.ev, h, hx]
      · rfl
  · split
    · rename_i h; rw [E.beq_eq _ _ h]; simp [E.ev, BOp.ev]
    · rfl
  · split
    · rename_i h; rw [E.beq_eq _ _ h]; simp [E.ev, BOp.ev]
    · rfl
  · rfl

/-- The values of one cell that a symbolic integer stands for. -/
inductive Lk where
  | int (k : IntKind) | bool
def Lk.val : Lk → Int → Value
  | .int k, n => .int k n
  | .bool, n => .bool (decide (n ≠ 0))
def Lk.code (l : Lk) (f : Nat) : Nat := 8 * f + match l with
  | .int k => kTag k
  | .bool => 3
def Lk.fits : Lk → Int → Prop
  | .int k, n => (Lit.int k n).wf = true
  | .bool, _ => True

/-- Values. 'inp k z off len0 len cap': a slice of the input array in box k, of elements of z cells, from cell off on (the array has len0 elements); 'iptr k z len0 i off': its cell i * z + off. -/
inductive SV where
  | int (k : IntKind) (e : E)
  | bool (e : E)
  | ptr (b off : Nat)
  | slice (b off len : Nat) (cap : Option Nat)
  | map (b : Nat)
  | str (l : List E)
  | raw (v : Value)
  | agg (l : List SV)
  | tuple (l : List SV)
  | func (f : FuncId) (first cap : List SV)
  | inp (k z off : Nat) (len0 len cap : E)
  | iptr (k z : Nat) (len0 i : E) (off : Nat)

abbrev Bm := Nat → Nat × Nat
/-- The string of bytes. -/
def bytesV (l : List Int) : ByteArray := ⟨(l.map fun n => UInt8.ofNat n.toNat).toArray⟩
mutual
def SV.ev (ρ : Env) (β : Bm) : SV → Value
  | .int k e => .int k (e.ev ρ)
  | .bool e => .bool (decide (e.ev ρ ≠ 0))
  | .ptr b off => .pointer (some ⟨(β b).1, off, none⟩)
  | .slice b off len cap => .slice (some ⟨(β b).1, off, none⟩) len (cap.getD (β b).2)
  | .map b => .map (some (β b).1)
  | .str l => .string (bytesV (E.evs ρ l))
  | .raw v => v
  | .agg l => .agg (SV.evs ρ β l).toArray
  | .tuple l => .tuple (SV.evs ρ β l).toArray
  | .func f x y => .func (.func f) (SV.evs ρ β x).toArray (SV.evs ρ β y).toArray
  | .inp k _ off _ len cap => .slice (some ⟨(β k).1, (β k).2 + off, none⟩) (len.ev ρ).toNat (cap.ev ρ).toNat
  | .iptr k z _ i off => .pointer (some ⟨(β k).1, (β k).2 + ((i.ev ρ).toNat * z + off), none⟩)
def SV.evs (ρ : Env) (β : Bm) : List SV → List Value
  | [] => []
  | s :: l => SV.ev ρ β s :: SV.evs ρ β l
end
theorem SV.evs_map (ρ : Env) (β : Bm) : ∀ l : List SV, SV.evs ρ β l = l.map (SV.ev ρ β)
  | [] => rfl
  | s :: l => by simp [SV.evs, SV.evs_map ρ β l]

mutual
/-- All pointers go to boxes below n, and all integers are in their ranges. -/
def SV.ok (ρ : Env) (n : Nat) : SV → Prop
  | .int k e => (Lit.int k (e.ev ρ)).wf = true
  | .bool _ => True
  | .ptr b _ => b < n
  | .slice b _ _ _ => b < n
  | .map b => b < n
  | .str l => ∀ x ∈ E.evs ρ l, 0 ≤ x ∧ x < 256
  | .raw _ => True
  | .agg l => SV.oks ρ n l
  | .tuple l => SV.oks ρ n l
  | .func _ x y => SV.oks ρ n x ∧ SV.oks ρ n y
  | .inp k z off len0 len cap => k < n ∧ (Lit.int .i64 (len.ev ρ)).wf = true ∧ 0 ≤ len.ev ρ ∧ len.ev ρ ≤ cap.ev ρ ∧ off + (len.ev ρ).toNat * z ≤ (len0.ev ρ).toNat * z
  | .iptr k z len0 i off => k < n ∧ 0 ≤ i.ev ρ ∧ (i.ev ρ).toNat * z + off < (len0.ev ρ).toNat * z
def SV.oks (ρ : Env) (n : Nat) : List SV → Prop
  | [] => True
  | s :: l => SV.ok ρ n s ∧ SV.oks ρ n l
end
theorem SV.oks_mem {ρ : Env} {n : Nat} : ∀ {l : List SV}, SV.oks ρ n l ↔ ∀ s ∈ l, s.ok ρ n
  | [] => by simp [SV.oks]
  | s :: l => by simp [SV.oks, SV.oks_mem (l := l)]

mutual
theorem SV.ok_mono {ρ : Env} {n m : Nat} (hnm : n ≤ m) : ∀ s : SV, s.ok ρ n → s.ok ρ m
  | .int _ _, h => h
  | .bool _, _ => trivial
  | .ptr _ _, h => Nat.lt_of_lt_of_le h hnm
  | .slice _ _ _ _, h => Nat.lt_of_lt_of_le h hnm
  | .map _, h => Nat.lt_of_lt_of_le h hnm
  | .str _, h => h
  | .raw _, _ => trivial
  | .agg l, h => SV.oks_mono hnm l h
  | .tuple l, h => SV.oks_mono hnm l h
  | .func _ x y, h => ⟨SV.oks_mono hnm x h.1, SV.oks_mono hnm y h.2⟩
  | .inp _ _ _ _ _ _, h => ⟨Nat.lt_of_lt_of_le h.1 hnm, h.2⟩
  | .iptr _ _ _ _ _, h => ⟨Nat.lt_of_lt_of_le h.1 hnm, h.2⟩
theorem SV.oks_mono {ρ : Env} {n m : Nat} (hnm : n ≤ m) : ∀ l : List SV, SV.oks ρ n l → SV.oks ρ m l
  | [], _ => trivial
  | s :: l, h => ⟨SV.ok_mono hnm s h.1, SV.oks_mono hnm l h.2⟩
end

/-- β' goes on where β is known. -/
def Ext (n : Nat) (β β' : Bm) : Prop := ∀ b, b < n → β' b = β b
theorem Ext.refl (n : Nat) (β : Bm) : Ext n β β := fun _ _ => rfl
theorem Ext.trans {n m : Nat} {β β' β'' : Bm} (h : Ext n β β') (h' : Ext m β' β'') (hnm : n ≤ m) : Ext n β β'' := fun b hb => (h' b (by omega)).trans (h b hb)
mutual
theorem SV.ev_ext {ρ : Env} {n : Nat} {β β' : Bm} (hx : Ext n β β') : ∀ s : SV, s.ok ρ n → s.ev ρ β' = s.ev ρ β
  | .int _ _, _ => rfl
  | .bool _, _ => rfl
  | .ptr b _, h => by simp only [SV.ev]; rw [hx b h]
  | .slice b _ _ _, h => by simp only [SV.ev]; rw [hx b h]
  | .map b, h => by simp only [SV.ev]; rw [hx b h]
  | .str _, _ => rfl
  | .raw _, _ => rfl
  | .agg l, h => by simp only [SV.ev]; rw [SV.evs_ext hx l h]
  | .tuple l, h => by simp only [SV.ev]; rw [SV.evs_ext hx l h]
  | .func _ x y, h => by simp only [SV.ev]; rw [SV.evs_ext hx x h.1, SV.evs_ext hx y h.2]
  | .inp k _ _ _ _ _, h => by simp only [SV.ev]; rw [hx k h.1]
  | .iptr k _ _ _ _, h => by simp only [SV.ev]; rw [hx k h.1]
theorem SV.evs_ext {ρ : Env} {n : Nat} {β β' : Bm} (hx : Ext n β β') : ∀ l : List SV, SV.oks ρ n l → SV.evs ρ β' l = SV.evs ρ β l
  | [], _ => rfl
  | s :: l, h => by simp only [SV.evs]; rw [SV.ev_ext hx s h.1, SV.evs_ext hx l h.2]
end

/-- A closed value as a symbolic one. -/
def inRange (k : IntKind) (n : Int) : Bool := (Lit.int k n).wf
def ofLeaf : Value → SV
  | .int k n => if inRange k n then .int k (.lit n) else .raw (.int k n)
  | .bool true => .bool (.lit 1)
  | .bool false => .bool (.lit 0)
  | v => .raw v
def ofValue : Value → SV
  | .agg cs => .agg (cs.toList.map ofLeaf)
  | v => ofLeaf v
theorem ofLeaf_ev (ρ : Env) (β : Bm) (v : Value) : (ofLeaf v).ev ρ β = v := by
  unfold ofLeaf
  split
  · split <;> rfl
  · simp [SV.ev, E.ev]
  · simp [SV.ev, E.ev]
  · rfl
theorem ofLeaf_ok (ρ : Env) (n : Nat) (v : Value) : (ofLeaf v).ok ρ n := by
  unfold ofLeaf
  split
  · split
    · rename_i h; exact h
    · trivial
  · trivial
  · trivial
  · trivial
theorem ofValue_ev (ρ : Env) (β : Bm) (v : Value) : (ofValue v).ev ρ β = v := by
  unfold ofValue
  split
  · rename_i cs
    simp only [SV.ev, SV.evs_map, List.map_map]
    congr 1
    have : (SV.ev ρ β ∘ ofLeaf) = id := funext fun v => ofLeaf_ev ρ β v
    rw [this]; simp
  · exact ofLeaf_ev ρ β v
theorem ofValue_ok (ρ : Env) (n : Nat) (v : Value) : (ofValue v).ok ρ n := by
  unfold ofValue
  split
  · simp only [SV.ok, SV.oks_mem]
    intro s hs
    obtain ⟨v, _, rfl⟩ := List.mem_map.1 hs
    exact ofLeaf_ok ρ n v
  · exact ofLeaf_ok ρ n v
end Go.Proofs.YthbfjnmdjehljaaDoor.SX
