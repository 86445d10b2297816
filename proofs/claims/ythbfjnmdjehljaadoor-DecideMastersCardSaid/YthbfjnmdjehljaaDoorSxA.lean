/- Tests and their facts; linear forms: what an expression comes to by the facts. Of no program. -/
import Derived.Test.YthbfjnmdjehljaaDoorSxE
namespace Go.Proofs.YthbfjnmdjehljaaDoor.SX
open Go
set_option linter.unusedVariables false
set_option linter.unusedSimpArgs false

/-! ### Tests -/
def known0 : List (E × Bool) → E → Option Bool
  | [], _ => none
  | (e, b) :: l, c => if e.beq c then some b else known0 l c
theorem known0_spec {ρ : Env} {c : E} {b : Bool} : ∀ {l : List (E × Bool)}, (∀ p ∈ l, (p.1.ev ρ ≠ 0 ↔ p.2 = true)) → known0 l c = some b → (c.ev ρ ≠ 0 ↔ b = true)
  | [], _, h => by simp [known0] at h
  | (e, d) :: l, hl, h => by
    unfold known0 at h
    split at h
    · rename_i he
      obtain rfl := E.beq_eq _ _ he
      obtain rfl := Option.some.inj h
      exact hl _ (List.mem_cons_self ..)
    · exact known0_spec (fun p hp => hl p (List.mem_cons_of_mem _ hp)) h
/-- Bounds. -/
structure Bnd where
  lo : Option Int
  hi : Option Int
def Bnd.has (b : Bnd) (x : Int) : Prop := (∀ n, b.lo = some n → n ≤ x) ∧ ∀ n, b.hi = some n → x ≤ n
def Bnd.low (b : Bnd) (n : Int) : Bnd := ⟨match b.lo with | some m => some (if m < n then n else m) | none => some n, b.hi⟩
def Bnd.high (b : Bnd) (n : Int) : Bnd := ⟨b.lo, match b.hi with | some m => some (if n < m then n else m) | none => some n⟩
theorem Bnd.low_has {b : Bnd} {n x : Int} (h : b.has x) (hn : n ≤ x) : (b.low n).has x := by
  refine ⟨fun m hm => ?_, h.2⟩
  unfold Bnd.low at hm
  simp only at hm
  split at hm
  · rename_i k hk
    have := h.1 k hk
    obtain rfl := Option.some.inj hm
    split <;> omega
  · obtain rfl := Option.some.inj hm; exact hn
theorem Bnd.high_has {b : Bnd} {n x : Int} (h : b.has x) (hn : x ≤ n) : (b.high n).has x := by
  refine ⟨h.1, fun m hm => ?_⟩
  unfold Bnd.high at hm
  simp only at hm
  split at hm
  · rename_i k hk
    have := h.2 k hk
    obtain rfl := Option.some.inj hm
    split <;> omega
  · obtain rfl := Option.some.inj hm; exact hn
def bndStep (e : E) (c : E) (v : Bool) (b : Bnd) : Bnd :=
  match c with
  | .bin .lt _ x (.lit n) => if x.beq e then (if v then b.high (n - 1) else b.low n) else b
  | .bin .lt _ (.lit n) x => if x.beq e then (if v then b.low (n + 1) else b.high n) else b
  | .bin .eq _ x (.lit n) => if x.beq e then (if v then (b.low n).high n else b) else b
  | .bin .zrng k x _ => if x.beq e then (if v then (b.low k.min).high k.max else b) else b
  | _ => b
def baseB (e : E) : Bnd :=
  match e with
  | .rd _ f _ => ⟨some (kOf f).min, some (kOf f).max⟩
  | _ => ⟨none, none⟩
theorem baseB_has (ρ : Env) (e : E) : (baseB e).has (e.ev ρ) := by
  unfold baseB
  split
  · rename_i a f i
    have := rd_rng ρ a f (i.ev ρ)
    exact ⟨fun n h => by obtain rfl := Option.some.inj h; exact this.1, fun n h => by obtain rfl := Option.some.inj h; exact this.2⟩
  · exact ⟨(fun _ h => by cases h), (fun _ h => by cases h)⟩
def bndOf (e : E) : List (E × Bool) → Bnd
  | [] => baseB e
  | (c, v) :: l => bndStep e c v (bndOf e l)
theorem bndStep_has {ρ : Env} {e c : E} {v : Bool} {b : Bnd} (hc : c.ev ρ ≠ 0 ↔ v = true) (h : b.has (e.ev ρ)) : (bndStep e c v b).has (e.ev ρ) := by
  unfold bndStep
  split
  · rename_i k x n
    split
    · rename_i he
      obtain rfl := E.beq_eq _ _ he
      simp only [E.ev, BOp.ev] at hc
      cases v
      · simp only [Bool.false_eq_true, if_false]
        refine Bnd.low_has h ?_
        by_cases hlt : x.ev ρ < n
        · simp [hlt] at hc
        · omega
      · simp only [if_true]
        refine Bnd.high_has h ?_
        by_cases hlt : x.ev ρ < n
        · omega
        · simp [hlt] at hc
    · exact h
  · rename_i k n x _
    split
    · rename_i he
      obtain rfl := E.beq_eq _ _ he
      simp only [E.ev, BOp.ev] at hc
      cases v
      · simp only [Bool.false_eq_true, if_false]
        refine Bnd.high_has h ?_
        by_cases hlt : n < x.ev ρ
        · simp [hlt] at hc
        · omega
      · simp only [if_true]
        refine Bnd.low_has h ?_
        by_cases hlt : n < x.ev ρ
        · omega
        · simp [hlt] at hc
    · exact h
  · rename_i k x n
    split
    · rename_i he
      obtain rfl := E.beq_eq _ _ he
      simp only [E.ev, BOp.ev] at hc
      cases v
      · exact h
      · simp only [if_true]
        by_cases heq : x.ev ρ = n
        · exact Bnd.high_has (Bnd.low_has h (by omega)) (by omega)
        · simp [heq] at hc
    · exact h
  · rename_i k x y
    split
    · rename_i he
      obtain rfl := E.beq_eq _ _ he
      simp only [E.ev, BOp.ev] at hc
      cases v
      · exact h
      · simp only [if_true]
        by_cases hr : k.min ≤ x.ev ρ ∧ x.ev ρ ≤ k.max
        · exact Bnd.high_has (Bnd.low_has h hr.1) hr.2
        · simp [hr] at hc
    · exact h
  · exact h
theorem bndOf_has {ρ : Env} {e : E} : ∀ {l : List (E × Bool)}, (∀ p ∈ l, (p.1.ev ρ ≠ 0 ↔ p.2 = true)) → (bndOf e l).has (e.ev ρ)
  | [], _ => baseB_has ρ e
  | (c, v) :: l, hl => bndStep_has (hl (c, v) (List.mem_cons_self ..)) (bndOf_has fun p hp => hl p (List.mem_cons_of_mem _ hp))
def Bnd.lt (b : Bnd) (n : Int) : Option Bool :=
  match b.hi with
  | some h => if h < n then some true else match b.lo with
    | some l => if n ≤ l then some false else none
    | none => none
  | none => match b.lo with
    | some l => if n ≤ l then some false else none
    | none => none
theorem Bnd.lt_spec {b : Bnd} {n x : Int} {v : Bool} (h : b.has x) (hv : b.lt n = some v) : x < n ↔ v = true := by
  unfold Bnd.lt at hv
  repeat' split at hv
  all_goals first | (cases hv; done) | (obtain rfl := Option.some.inj hv)
  · rename_i a ha hlt; have := h.2 a ha; simp; omega
  · rename_i a ha hlt l hl hle; have := h.1 l hl; simp; omega
  · rename_i ha l hl hle; have := h.1 l hl; simp; omega
def byBounds (fs : List (E × Bool)) (c : E) : Option Bool :=
  match c with
  | .bin .lt _ x (.lit n) => (bndOf x fs).lt n
  | .bin .lt _ (.lit n) x => ((bndOf x fs).lt (n + 1)).map fun b => !b
  | .bin .eq _ x (.lit n) => match (bndOf x fs).lt n, (bndOf x fs).lt (n + 1) with
    | some true, _ => some false
    | _, some false => some false
    | some false, some true => some true
    | _, _ => none
  | _ => none
theorem ev_lt (ρ : Env) (k : IntKind) (a b : E) : (E.bin .lt k a b).ev ρ ≠ 0 ↔ a.ev ρ < b.ev ρ := by
  show (if a.ev ρ < b.ev ρ then (1 : Int) else 0) ≠ 0 ↔ _
  by_cases h : a.ev ρ < b.ev ρ <;> simp [h]
theorem ev_eq (ρ : Env) (k : IntKind) (a b : E) : (E.bin .eq k a b).ev ρ ≠ 0 ↔ a.ev ρ = b.ev ρ := by
  show (if a.ev ρ = b.ev ρ then (1 : Int) else 0) ≠ 0 ↔ _
  by_cases h : a.ev ρ = b.ev ρ <;> simp [h]
theorem byBounds_spec {ρ : Env} {fs : List (E × Bool)} {c : E} {v : Bool} (hf : ∀ p ∈ fs, (p.1.ev ρ ≠ 0 ↔ p.2 = true)) (h : byBounds fs c = some v) : c.ev ρ ≠ 0 ↔ v = true := by
  unfold byBounds at h
  split at h
  · rename_i k x n
    have := Bnd.lt_spec (bndOf_has hf) h
    rw [ev_lt]
    exact this
  · rename_i k n x _
    cases hb : (bndOf x fs).lt (n + 1) with
    | none => simp [hb] at h
    | some u =>
      simp only [hb, Option.map_some, Option.some.injEq] at h
      subst h
      have := Bnd.lt_spec (bndOf_has hf) hb
      rw [ev_lt]
      show n < x.ev ρ ↔ _
      cases u
      · have h1 : ¬ x.ev ρ < n + 1 := fun h => by simpa using this.1 h
        simp only [Bool.not_false, iff_true]; omega
      · have h1 : x.ev ρ < n + 1 := this.2 rfl
        simp only [Bool.not_true, Bool.false_eq_true, iff_false]; omega
  · rename_i k x n
    have key : ∀ m u, (bndOf x fs).lt m = some u → (x.ev ρ < m ↔ u = true) := fun m u hu => Bnd.lt_spec (bndOf_has hf) hu
    rw [ev_eq]
    show x.ev ρ = n ↔ _
    split at h
    · rename_i h1
      obtain rfl := Option.some.inj h
      have := (key _ _ h1).2 rfl
      simp only [Bool.false_eq_true, iff_false]; omega
    · have h1 : (bndOf x fs).lt (n + 1) = some false := by assumption
      obtain rfl := Option.some.inj h
      have : ¬ x.ev ρ < n + 1 := fun h => by simpa using (key _ _ h1).1 h
      simp only [Bool.false_eq_true, iff_false]; omega
    · have h1 : (bndOf x fs).lt n = some false := by assumption
      have h2 : (bndOf x fs).lt (n + 1) = some true := by assumption
      obtain rfl := Option.some.inj h
      have a1 : ¬ x.ev ρ < n := fun h => by simpa using (key _ _ h1).1 h
      have a2 := (key _ _ h2).2 rfl
      simp only [iff_true]; omega
    · cases h
  · cases h
def known (fs : List (E × Bool)) (c : E) : Option Bool :=
  match known0 fs c with
  | some b => some b
  | none => byBounds fs c
theorem known_spec {ρ : Env} {c : E} {b : Bool} {l : List (E × Bool)} (hl : ∀ p ∈ l, (p.1.ev ρ ≠ 0 ↔ p.2 = true)) (h : known l c = some b) : (c.ev ρ ≠ 0 ↔ b = true) := by
  unfold known at h
  split at h
  · rename_i v hv; obtain rfl := Option.some.inj h; exact known0_spec hl hv
  · exact byBounds_spec hl h

/-! ### Linear forms -/
def FsOk (ρ : Env) (fs : List (E × Bool)) : Prop := ∀ p ∈ fs, (p.1.ev ρ ≠ 0 ↔ p.2 = true)
def pw (n : Nat) : Int := Int.ofNat (2 ^ n)
theorem pw_eq (n : Nat) : pw n = 2 ^ n := by unfold pw; rw [Int.ofNat_eq_natCast, Int.natCast_pow]; rfl
theorem pw_pos (n : Nat) : 0 < pw n := by rw [pw_eq]; exact Int.pow_pos (by decide)
def cmpN (a b : Nat) : Ordering := bif Nat.blt a b then .lt else bif Nat.beq a b then .eq else .gt
def cmpI : Int → Int → Ordering
  | .ofNat a, .ofNat b => cmpN a b
  | .negSucc a, .negSucc b => cmpN b a
  | .ofNat _, .negSucc _ => .gt
  | .negSucc _, .ofNat _ => .lt
def thenO : Ordering → Ordering → Ordering
  | .eq, o => o
  | o, _ => o
def E.rank : E → Nat
  | .lit _ => 0
  | .var _ => 1
  | .rd _ _ _ => 2
  | .bin _ _ _ _ => 3
  | .app _ _ _ => 4
mutual
def E.ord : E → E → Ordering
  | .lit n, .lit m => cmpI n m
  | .var i, .var j => cmpN i j
  | .rd a f i, .rd b g j => thenO (cmpN a b) (thenO (cmpN f g) (E.ord i j))
  | .bin o k a b, .bin p l c d => thenO (cmpN o.tag p.tag) (thenO (cmpN (kTag k) (kTag l)) (thenO (E.ord a c) (E.ord b d)))
  | .app f j l, .app g i m => thenO (cmpN f g) (thenO (cmpN j i) (E.ords l m))
  | a, b => cmpN a.rank b.rank
def E.ords : List E → List E → Ordering
  | [], [] => .eq
  | a :: l, b :: m => thenO (E.ord a b) (E.ords l m)
  | [], _ => .lt
  | _, [] => .gt
end
abbrev Tl := List (Int × E)
structure Lin where
  c : Int
  l : Tl
def evL (ρ : Env) : Tl → Int
  | [] => 0
  | (k, e) :: r => k * e.ev ρ + evL ρ r
def Lin.ev (ρ : Env) (L : Lin) : Int := L.c + evL ρ L.l
def insL (k : Int) (e : E) : Tl → Tl
  | [] => if k = 0 then [] else [(k, e)]
  | (j, f) :: r => if e.beq f then (if k + j = 0 then r else (k + j, f) :: r) else
    match e.ord f with
    | .lt => if k = 0 then (j, f) :: r else (k, e) :: (j, f) :: r
    | _ => (j, f) :: insL k e r
theorem insL_ev (ρ : Env) (k : Int) (e : E) : ∀ l : Tl, evL ρ (insL k e l) = k * e.ev ρ + evL ρ l
  | [] => by
    unfold insL
    split
    · rename_i h; subst h; simp [evL]
    · rfl
  | (j, f) :: r => by
    unfold insL
    split
    · rename_i h
      obtain rfl := E.beq_eq _ _ h
      have hd : (k + j) * e.ev ρ = k * e.ev ρ + j * e.ev ρ := Int.add_mul ..
      split
      · rename_i h0
        rw [h0] at hd
        simp only [evL]
        omega
      · simp only [evL, hd]; omega
    · split
      · split
        · rename_i h; subst h; simp [evL]
        · rfl
      · simp only [evL, insL_ev ρ k e r]; omega
def addL : Tl → Tl → Tl
  | [], m => m
  | (k, e) :: l, m => insL k e (addL l m)
theorem addL_ev (ρ : Env) : ∀ l m : Tl, evL ρ (addL l m) = evL ρ l + evL ρ m
  | [], m => by simp [addL, evL]
  | (k, e) :: l, m => by simp only [addL, insL_ev, addL_ev ρ l m, evL]; omega
def mulL (k : Int) : Tl → Tl
  | [] => []
  | (j, e) :: l => (k * j, e) :: mulL k l
theorem mulL_ev (ρ : Env) (k : Int) : ∀ l : Tl, evL ρ (mulL k l) = k * evL ρ l
  | [] => by simp [mulL, evL]
  | (j, e) :: l => by simp only [mulL, evL, mulL_ev ρ k l, Int.mul_add, Int.mul_assoc]
def Lin.add (a b : Lin) : Lin := ⟨a.c + b.c, addL a.l b.l⟩
def Lin.scl (k : Int) (a : Lin) : Lin := if k = 0 then ⟨0, []⟩ else ⟨k * a.c, mulL k a.l⟩
def Lin.addc (a : Lin) (n : Int) : Lin := ⟨a.c + n, a.l⟩
theorem Lin.ev_add (ρ : Env) (a b : Lin) : (a.add b).ev ρ = a.ev ρ + b.ev ρ := by simp only [Lin.ev, Lin.add, addL_ev]; omega
theorem Lin.ev_scl (ρ : Env) (k : Int) (a : Lin) : (a.scl k).ev ρ = k * a.ev ρ := by
  unfold Lin.scl
  split
  · rename_i h; subst h; simp [Lin.ev, evL]
  · simp only [Lin.ev, mulL_ev, Int.mul_add]
theorem Lin.ev_addc (ρ : Env) (a : Lin) (n : Int) : (a.addc n).ev ρ = a.ev ρ + n := by simp only [Lin.ev, Lin.addc]; omega
def termE (k : Int) (e : E) : E := if k = 1 then e else .bin .zmul .i64 (.lit k) e
theorem termE_ev (ρ : Env) (k : Int) (e : E) : (termE k e).ev ρ = k * e.ev ρ := by
  unfold termE
  split
  · rename_i h; subst h; simp
  · rfl
def partE : Tl → E
  | [] => .lit 0
  | (k, e) :: r => match r with
    | [] => termE k e
    | _ => .bin .zadd .i64 (termE k e) (partE r)
theorem partE_ev (ρ : Env) : ∀ l : Tl, (partE l).ev ρ = evL ρ l
  | [] => rfl
  | (k, e) :: r => by
    unfold partE
    split
    · simp [termE_ev, evL]
    · show (termE k e).ev ρ + (partE r).ev ρ = _
      rw [termE_ev, partE_ev ρ r]; rfl
def Lin.toE (L : Lin) : E :=
  match L.l with
  | [] => .lit L.c
  | l => if L.c = 0 then partE l else .bin .zadd .i64 (partE l) (.lit L.c)
theorem Lin.toE_ev (ρ : Env) (L : Lin) : L.toE.ev ρ = L.ev ρ := by
  unfold Lin.toE Lin.ev
  split
  · rename_i h; rw [h]; simp [evL, E.ev]
  · split
    · rename_i h; rw [h, partE_ev]; simp
    · show (partE L.l).ev ρ + L.c = _
      rw [partE_ev]; omega

/-! ### Bounds of linear forms -/
def Bnd.top : Bnd := ⟨none, none⟩
theorem Bnd.top_has (x : Int) : Bnd.top.has x := ⟨(fun _ h => by cases h), (fun _ h => by cases h)⟩
def Bnd.one (n : Int) : Bnd := ⟨some n, some n⟩
theorem Bnd.one_has (n : Int) : (Bnd.one n).has n := ⟨(fun m h => by obtain rfl := Option.some.inj h; exact Int.le_refl _), (fun m h => by obtain rfl := Option.some.inj h; exact Int.le_refl _)⟩
def Bnd.of (a b : Int) : Bnd := ⟨some a, some b⟩
theorem Bnd.of_has {a b x : Int} (h1 : a ≤ x) (h2 : x ≤ b) : (Bnd.of a b).has x := ⟨(fun m h => by obtain rfl := Option.some.inj h; exact h1), (fun m h => by obtain rfl := Option.some.inj h; exact h2)⟩
def Bnd.meet (a b : Bnd) : Bnd :=
  let c := match a.lo with | some n => b.low n | none => b
  match a.hi with | some n => c.high n | none => c
theorem Bnd.meet_has {a b : Bnd} {x : Int} (ha : a.has x) (hb : b.has x) : (a.meet b).has x := by
  have hc : (match a.lo with | some n => b.low n | none => b).has x := by
    split
    · rename_i n hn; exact Bnd.low_has hb (ha.1 n hn)
    · exact hb
  unfold Bnd.meet
  simp only
  split
  · rename_i n hn; exact Bnd.high_has hc (ha.2 n hn)
  · exact hc
def addO : Option Int → Option Int → Option Int
  | some a, some b => some (a + b)
  | _, _ => none
theorem addO_some {a b : Option Int} {n : Int} (h : addO a b = some n) : ∃ x y, a = some x ∧ b = some y ∧ n = x + y := by
  unfold addO at h
  split at h
  · obtain rfl := Option.some.inj h; exact ⟨_, _, rfl, rfl, rfl⟩
  · cases h
def Bnd.add (a b : Bnd) : Bnd := ⟨addO a.lo b.lo, addO a.hi b.hi⟩
theorem Bnd.add_has {a b : Bnd} {x y : Int} (ha : a.has x) (hb : b.has y) : (a.add b).has (x + y) := by
  constructor
  · intro n hn
    obtain ⟨u, v, hu, hv, rfl⟩ := addO_some hn
    have := ha.1 u hu; have := hb.1 v hv; omega
  · intro n hn
    obtain ⟨u, v, hu, hv, rfl⟩ := addO_some hn
    have := ha.2 u hu; have := hb.2 v hv; omega
def mulO (k : Int) : Option Int → Option Int
  | some a => some (k * a)
  | none => none
theorem mulO_some {k : Int} {a : Option Int} {n : Int} (h : mulO k a = some n) : ∃ x, a = some x ∧ n = k * x := by
  unfold mulO at h
  split at h
  · obtain rfl := Option.some.inj h; exact ⟨_, rfl, rfl⟩
  · cases h
def Bnd.scl (k : Int) (a : Bnd) : Bnd := if 0 ≤ k then ⟨mulO k a.lo, mulO k a.hi⟩ else ⟨mulO k a.hi, mulO k a.lo⟩
theorem Bnd.scl_has {k : Int} {a : Bnd} {x : Int} (h : a.has x) : (a.scl k).has (k * x) := by
  unfold Bnd.scl
  split
  · rename_i hk
    constructor
    · intro n hn; obtain ⟨u, hu, rfl⟩ := mulO_some hn; exact Int.mul_le_mul_of_nonneg_left (h.1 u hu) hk
    · intro n hn; obtain ⟨u, hu, rfl⟩ := mulO_some hn; exact Int.mul_le_mul_of_nonneg_left (h.2 u hu) hk
  · rename_i hk
    constructor
    · intro n hn; obtain ⟨u, hu, rfl⟩ := mulO_some hn; exact Int.mul_le_mul_of_nonpos_left (by omega) (h.2 u hu)
    · intro n hn; obtain ⟨u, hu, rfl⟩ := mulO_some hn; exact Int.mul_le_mul_of_nonpos_left (by omega) (h.1 u hu)
def Bnd.addc (a : Bnd) (n : Int) : Bnd := a.add (.one n)
theorem Bnd.addc_has {a : Bnd} {n x : Int} (h : a.has x) : (a.addc n).has (x + n) := Bnd.add_has h (Bnd.one_has n)
def divO (c : Int) : Option Int → Option Int
  | some a => some (a.fdiv c)
  | none => none
theorem divO_some {k : Int} {a : Option Int} {n : Int} (h : divO k a = some n) : ∃ x, a = some x ∧ n = x.fdiv k := by
  unfold divO at h
  split at h
  · obtain rfl := Option.some.inj h; exact ⟨_, rfl, rfl⟩
  · cases h
def Bnd.fdiv (a : Bnd) (c : Int) : Bnd := ⟨divO c a.lo, divO c a.hi⟩
theorem fdiv_mono {a b c : Int} (hc : 0 < c) (h : a ≤ b) : a.fdiv c ≤ b.fdiv c := by
  rw [Int.fdiv_eq_ediv_of_nonneg _ (by omega), Int.fdiv_eq_ediv_of_nonneg _ (by omega)]
  exact Int.ediv_le_ediv hc h
theorem Bnd.fdiv_has {a : Bnd} {c x : Int} (hc : 0 < c) (h : a.has x) : (a.fdiv c).has (x.fdiv c) := by
  constructor
  · intro n hn; obtain ⟨u, hu, rfl⟩ := divO_some hn; exact fdiv_mono hc (h.1 u hu)
  · intro n hn; obtain ⟨u, hu, rfl⟩ := divO_some hn; exact fdiv_mono hc (h.2 u hu)
def Bnd.pt (b : Bnd) : Option Int :=
  match b.lo, b.hi with
  | some a, some c => if a = c then some a else none
  | _, _ => none
theorem Bnd.pt_spec {b : Bnd} {v x : Int} (h : b.has x) (hp : b.pt = some v) : x = v := by
  unfold Bnd.pt at hp
  split at hp
  · rename_i a c ha hc
    split at hp
    · rename_i he
      obtain rfl := Option.some.inj hp
      have := h.1 _ ha; have := h.2 _ hc; omega
    · cases hp
  · cases hp
def listBnd (fs : List (E × Bool)) : Tl → Bnd
  | [] => .one 0
  | (k, e) :: r => ((bndOf e fs).scl k).add (listBnd fs r)
theorem listBnd_has {ρ : Env} {fs : List (E × Bool)} (hf : FsOk ρ fs) : ∀ l : Tl, (listBnd fs l).has (evL ρ l)
  | [] => Bnd.one_has 0
  | (k, e) :: r => Bnd.add_has (Bnd.scl_has (bndOf_has hf)) (listBnd_has hf r)
def pos1 : Tl → Bool
  | (k, _) :: _ => decide (0 < k)
  | [] => true
def linBnd (fs : List (E × Bool)) (L : Lin) : Bnd :=
  let b := listBnd fs L.l
  let b' := match L.l with
    | _ :: _ :: _ => b.meet (if pos1 L.l then bndOf (partE L.l) fs else (bndOf (partE (mulL (-1) L.l)) fs).scl (-1))
    | _ => b
  b'.addc L.c
theorem linBnd_has {ρ : Env} {fs : List (E × Bool)} (hf : FsOk ρ fs) (L : Lin) : (linBnd fs L).has (L.ev ρ) := by
  unfold linBnd Lin.ev
  simp only
  rw [Int.add_comm]
  refine Bnd.addc_has ?_
  split
  · refine Bnd.meet_has (listBnd_has hf _) ?_
    split
    · have := bndOf_has (e := partE L.l) hf
      rwa [partE_ev] at this
    · have := bndOf_has (e := partE (mulL (-1) L.l)) hf
      rw [partE_ev, mulL_ev] at this
      have h2 := Bnd.scl_has (k := -1) this
      rwa [show (-1 : Int) * (-1 * evL ρ L.l) = evL ρ L.l by omega] at h2
  · exact listBnd_has hf _

/-! ### What an expression comes to -/
abbrev Rz := Lin × Bnd
def Rz.ok (ρ : Env) (r : Rz) (x : Int) : Prop := r.1.ev ρ = x ∧ r.2.has x
def fin (fs : List (E × Bool)) (L : Lin) (b : Bnd) : Rz :=
  let b' := b.meet (linBnd fs L)
  match b'.pt with
  | some v => (⟨v, []⟩, b')
  | none => (L, b')
theorem fin_ok {ρ : Env} {fs : List (E × Bool)} {L : Lin} {b : Bnd} {x : Int} (hf : FsOk ρ fs) (h : L.ev ρ = x) (hb : b.has x) : Rz.ok ρ (fin fs L b) x := by
  have h' : (b.meet (linBnd fs L)).has x := Bnd.meet_has hb (h ▸ linBnd_has hf L)
  unfold fin
  simp only
  split
  · rename_i v hv
    exact ⟨by rw [Bnd.pt_spec h' hv]; simp [Lin.ev, evL], h'⟩
  · exact ⟨h, h'⟩
def atomR (fs : List (E × Bool)) (e : E) (b : Bnd) : Rz := fin fs ⟨0, [(1, e)]⟩ b
theorem atomR_ok {ρ : Env} {fs : List (E × Bool)} {e : E} {b : Bnd} {x : Int} (hf : FsOk ρ fs) (h : e.ev ρ = x) (hb : b.has x) : Rz.ok ρ (atomR fs e b) x :=
  fin_ok hf (by simp [Lin.ev, evL, h]) hb
def quoL (c : Int) : Tl → Tl
  | [] => []
  | (k, e) :: r => let q := k.fdiv c; if q = 0 then quoL c r else (q, e) :: quoL c r
def remL (c : Int) : Tl → Tl
  | [] => []
  | (k, e) :: r => let q := k - c * k.fdiv c; if q = 0 then remL c r else (q, e) :: remL c r
theorem quo_rem_ev (ρ : Env) (c : Int) : ∀ l : Tl, evL ρ l = c * evL ρ (quoL c l) + evL ρ (remL c l)
  | [] => by simp [quoL, remL, evL]
  | (k, e) :: r => by
    have ih := quo_rem_ev ρ c r
    simp only [quoL, remL, evL]
    have key : k * e.ev ρ = c * (k.fdiv c * e.ev ρ) + (k - c * k.fdiv c) * e.ev ρ := by rw [Int.sub_mul, Int.mul_assoc]; omega
    have e0 : (c * evL ρ (if k.fdiv c = 0 then quoL c r else (k.fdiv c, e) :: quoL c r)) = c * (k.fdiv c * e.ev ρ) + c * evL ρ (quoL c r) := by
      split
      · rename_i h; rw [h]; simp
      · simp only [evL, Int.mul_add]
    have e1 : evL ρ (if k - c * k.fdiv c = 0 then remL c r else (k - c * k.fdiv c, e) :: remL c r) = (k - c * k.fdiv c) * e.ev ρ + evL ρ (remL c r) := by
      split
      · rename_i h; rw [h]; simp
      · rfl
    rw [e0, e1]; omega
def Lin.quo (c : Int) (L : Lin) : Lin := ⟨L.c.fdiv c, quoL c L.l⟩
def Lin.rem (c : Int) (L : Lin) : Lin := ⟨L.c - c * L.c.fdiv c, remL c L.l⟩
theorem Lin.quo_rem (ρ : Env) (c : Int) (L : Lin) : L.ev ρ = c * (L.quo c).ev ρ + (L.rem c).ev ρ := by
  have := quo_rem_ev ρ c L.l
  simp only [Lin.ev, Lin.quo, Lin.rem, Int.mul_add]
  omega
theorem fdiv_add_mul {a b c : Int} (hc : 0 < c) : (c * a + b).fdiv c = a + b.fdiv c := by
  rw [Int.fdiv_eq_ediv_of_nonneg _ (by omega), Int.fdiv_eq_ediv_of_nonneg _ (by omega), Int.add_comm, Int.add_mul_ediv_left _ _ (by omega)]
  omega
theorem fdiv_fdiv {a b c : Int} (hb : 0 < b) (hc : 0 < c) : (a.fdiv b).fdiv c = a.fdiv (b * c) := by
  have hbc : 0 < b * c := Int.mul_pos hb hc
  rw [Int.fdiv_eq_ediv_of_nonneg _ (by omega), Int.fdiv_eq_ediv_of_nonneg _ (by omega), Int.fdiv_eq_ediv_of_nonneg _ (by omega), Int.ediv_ediv_of_nonneg (by omega)]
/-- Read back what 'toE' wrote. -/
def ofE : E → Lin
  | .lit n => ⟨n, []⟩
  | .bin .zadd k a b => (ofE a).add (ofE b)
  | .bin .zmul k (.lit n) b => (ofE b).scl n
  | e => ⟨0, [(1, e)]⟩
theorem ofE_ev (ρ : Env) (e : E) : (ofE e).ev ρ = e.ev ρ := by
  induction e using ofE.induct with
  | case1 n => simp [ofE, Lin.ev, evL, E.ev]
  | case2 k a b iha ihb => simp only [ofE, Lin.ev_add, iha, ihb]; rfl
  | case3 k n b ih => simp only [ofE, Lin.ev_scl, ih]; rfl
  | case4 e h1 h2 h3 =>
    unfold ofE
    split
    · exact absurd rfl (h1 _)
    · exact absurd rfl (h2 _ _ _)
    · exact absurd rfl (h3 _ _ _)
    · simp [Lin.ev, evL]
/-- An atom that is a quotient, of coefficient 1. -/
def quoAtom : Tl → Option (E × Int × Tl)
  | [] => none
  | (k, e) :: r => match k, e with
    | 1, .bin .zfdiv _ x (.lit d) => if 0 < d then some (x, d, r) else (quoAtom r).map fun p => (p.1, p.2.1, (k, e) :: p.2.2)
    | _, _ => (quoAtom r).map fun p => (p.1, p.2.1, (k, e) :: p.2.2)
theorem quoAtom_spec (ρ : Env) : ∀ {l : Tl} {x : E} {d : Int} {r : Tl}, quoAtom l = some (x, d, r) → 0 < d ∧ evL ρ l = (x.ev ρ).fdiv d + evL ρ r
  | [], x, d, r, h => by cases h
  | (k, e) :: l, x, d, r, h => by
    have key : ∀ {u : Option (E × Int × Tl)}, u = quoAtom l → (u.map fun p => (p.1, p.2.1, (k, e) :: p.2.2)) = some (x, d, r) → 0 < d ∧ evL ρ ((k, e) :: l) = (x.ev ρ).fdiv d + evL ρ r := fun {u} hu hm => by
      subst hu
      cases hq : quoAtom l with
      | none => rw [hq] at hm; cases hm
      | some p =>
        obtain ⟨x', d', r'⟩ := p
        rw [hq] at hm
        simp only [Option.map_some, Option.some.injEq, Prod.mk.injEq] at hm
        obtain ⟨rfl, rfl, rfl⟩ := hm
        obtain ⟨h1, h2⟩ := quoAtom_spec ρ hq
        exact ⟨h1, by simp only [evL, h2]; omega⟩
    unfold quoAtom at h
    split at h
    · rename_i k' y d'
      split at h
      · rename_i hd
        simp only [Option.some.injEq, Prod.mk.injEq] at h
        obtain ⟨rfl, rfl, rfl⟩ := h
        exact ⟨hd, by simp [evL, E.ev, BOp.ev]⟩
      · exact key rfl h
    · exact key rfl h
def gcdL (c : Int) : Tl → Int
  | [] => c
  | (k, _) :: l => gcdL (Int.ofNat (Nat.gcd c.natAbs k.natAbs)) l
theorem fdiv_gcd {a r g c : Int} (hg : 0 < g) (hc : 0 < c) : (r + g * a).fdiv (g * c) = (r.fdiv g + a).fdiv c := by
  rw [← fdiv_fdiv hg hc, Int.add_comm, fdiv_add_mul hg, Int.add_comm]
/-- The quotient, rounded down. -/
def fdivR (fs : List (E × Bool)) (c : Int) : Nat → Lin → Bnd → Rz
  | n, L, b =>
    let q := b.fdiv c
    match q.pt with
    | some v => (⟨v, []⟩, q)
    | none =>
      let Q := L.quo c
      let R := L.rem c
      match ((linBnd fs R).fdiv c).pt with
      | some v => fin fs (Q.addc v) q
      | none => fin fs (Q.add (match n with
        | 0 => atomR fs (.bin .zfdiv .i64 R.toE (.lit c)) .top
        | n + 1 => match quoAtom R.l with
          | some (x, d, r) => fdivR fs (c * d) n ((Lin.scl d ⟨R.c, r⟩).add (ofE x)) .top
          | none => let g := gcdL c R.l
            if 1 < g ∧ c % g = 0 ∧ (remL g R.l).isEmpty = true ∧ 0 < c / g then fdivR fs (c / g) n (R.quo g) .top
            else atomR fs (.bin .zfdiv .i64 R.toE (.lit c)) .top).1) q
theorem fdivR_ok {ρ : Env} {fs : List (E × Bool)} (hf : FsOk ρ fs) : ∀ (n : Nat) (c : Int) (L : Lin) (b : Bnd) (x : Int), 0 < c → L.ev ρ = x → b.has x → Rz.ok ρ (fdivR fs c n L b) (x.fdiv c) := by
  intro n
  induction n with
  | zero =>
    intro c L b x hc hL hb
    have hq := Bnd.fdiv_has hc hb
    have hx : x.fdiv c = (L.quo c).ev ρ + ((L.rem c).ev ρ).fdiv c := by rw [← hL, Lin.quo_rem ρ c L, fdiv_add_mul hc]
    unfold fdivR
    simp only
    split
    · rename_i v hv
      exact ⟨by rw [Bnd.pt_spec hq hv]; simp [Lin.ev, evL], hq⟩
    · split
      · rename_i v hv
        refine fin_ok hf ?_ hq
        rw [Lin.ev_addc, hx, Bnd.pt_spec (Bnd.fdiv_has hc (linBnd_has hf _)) hv]
      · refine fin_ok hf ?_ hq
        rw [Lin.ev_add, hx]
        congr 1
        refine (atomR_ok hf ?_ (Bnd.top_has _)).1
        show (Lin.toE _ |>.ev ρ).fdiv c = _
        rw [Lin.toE_ev]
  | succ n ih =>
    intro c L b x hc hL hb
    have hq := Bnd.fdiv_has hc hb
    have hx : x.fdiv c = (L.quo c).ev ρ + ((L.rem c).ev ρ).fdiv c := by rw [← hL, Lin.quo_rem ρ c L, fdiv_add_mul hc]
    unfold fdivR
    simp only
    split
    · rename_i v hv
      exact ⟨by rw [Bnd.pt_spec hq hv]; simp [Lin.ev, evL], hq⟩
    · split
      · rename_i v hv
        refine fin_ok hf ?_ hq
        rw [Lin.ev_addc, hx, Bnd.pt_spec (Bnd.fdiv_has hc (linBnd_has hf _)) hv]
      · refine fin_ok hf ?_ hq
        rw [Lin.ev_add, hx]
        congr 1
        split
        · rename_i y d r hy
          obtain ⟨h1, h2⟩ := quoAtom_spec ρ hy
          have hs : ((Lin.scl d ⟨(L.rem c).c, r⟩).add (ofE y)).ev ρ = d * ((L.rem c).c + evL ρ r) + y.ev ρ := by rw [Lin.ev_add, Lin.ev_scl, ofE_ev]; rfl
          rw [(ih (c * d) _ .top _ (Int.mul_pos hc h1) hs (Bnd.top_has _)).1, Int.mul_comm c d, ← fdiv_fdiv h1 hc, fdiv_add_mul h1]
          simp only [Lin.ev]
          rw [h2]
          congr 1
          omega
        · split
          · rename_i hg
            obtain ⟨h1, h2, h3, h4⟩ := hg
            generalize gcdL c (L.rem c).l = g at *
            have hr : remL g (L.rem c).l = [] := by simpa using h3
            have hev : evL ρ (L.rem c).l = g * evL ρ (quoL g (L.rem c).l) := by
              have := quo_rem_ev ρ g (L.rem c).l
              rw [hr] at this
              simp only [evL] at this
              omega
            have hcg : c = g * (c / g) := by
              have := Int.mul_ediv_add_emod c g
              omega
            rw [(ih (c / g) _ .top _ h4 rfl (Bnd.top_has _)).1]
            show ((L.rem c).c.fdiv g + evL ρ (quoL g (L.rem c).l)).fdiv (c / g) = ((L.rem c).c + evL ρ (L.rem c).l).fdiv c
            rw [hev, ← fdiv_gcd (by omega) h4, ← hcg]
          · refine (atomR_ok hf ?_ (Bnd.top_has _)).1
            show (Lin.toE _ |>.ev ρ).fdiv c = _
            rw [Lin.toE_ev]
def inB (b : Bnd) (lo hi : Int) : Bool :=
  match b.lo, b.hi with
  | some a, some c => decide (lo ≤ a) && decide (c ≤ hi)
  | _, _ => false
theorem inB_spec {b : Bnd} {lo hi x : Int} (h : b.has x) (hi' : inB b lo hi = true) : lo ≤ x ∧ x ≤ hi := by
  unfold inB at hi'
  split at hi'
  · rename_i a c ha hc
    simp only [Bool.and_eq_true, decide_eq_true_eq] at hi'
    have := h.1 _ ha; have := h.2 _ hc; omega
  · cases hi'
theorem wrap_in (k : IntKind) {x : Int} (h : k.min ≤ x ∧ x ≤ k.max) : k.wrap x = x := by
  cases k <;> simp [IntKind.wrap, IntKind.min, IntKind.max, IntKind.bits, IntKind.signed] at * <;> (try split) <;> omega
theorem wrap_fdiv (k : IntKind) (x : Int) : k.wrap x = x - pw k.bits * (x - k.min).fdiv (pw k.bits) := by
  have hp := pw_pos k.bits
  rw [Int.fdiv_eq_ediv_of_nonneg _ (by omega), pw_eq]
  cases k <;> simp only [IntKind.wrap, IntKind.min, IntKind.bits, IntKind.signed, Bool.true_and, Bool.false_and, if_true, Bool.false_eq_true, if_false, decide_eq_true_eq, Nat.reduceSub, Int.reducePow, Int.reduceNeg, ge_iff_le] <;> (try split) <;> omega
theorem wrap_range (k : IntKind) (x : Int) : k.min ≤ k.wrap x ∧ k.wrap x ≤ k.max := by
  cases k <;> simp [IntKind.wrap, IntKind.min, IntKind.max, IntKind.bits, IntKind.signed] <;> (try split) <;> omega
def depth : Nat := 4
def wrapR (fs : List (E × Bool)) (k : IntKind) (L : Lin) (b : Bnd) : Rz :=
  let r := fin fs L b
  if inB r.2 k.min k.max then r else fin fs (L.add ((fdivR fs (pw k.bits) depth (L.addc (-k.min)) (r.2.addc (-k.min))).1.scl (-(pw k.bits)))) (.of k.min k.max)
theorem wrapR_ok {ρ : Env} {fs : List (E × Bool)} {L : Lin} {b : Bnd} {x : Int} (hf : FsOk ρ fs) (k : IntKind) (h : L.ev ρ = x) (hb : b.has x) : Rz.ok ρ (wrapR fs k L b) (k.wrap x) := by
  have hr := fin_ok (b := b) hf h hb
  unfold wrapR
  simp only
  split
  · rename_i hi
    rw [wrap_in k (inB_spec hr.2 hi)]
    exact hr
  · refine fin_ok hf ?_ (Bnd.of_has (wrap_range k x).1 (wrap_range k x).2)
    have h1 : (L.addc (-k.min)).ev ρ = x - k.min := by rw [Lin.ev_addc, h]; omega
    have h2 : (Bnd.addc (fin fs L b).2 (-k.min)).has (x - k.min) := by
      have := Bnd.addc_has (n := -k.min) hr.2
      rwa [show x + -k.min = x - k.min by omega] at this
    rw [Lin.ev_add, Lin.ev_scl, (fdivR_ok hf depth _ _ _ _ (pw_pos _) h1 h2).1, h, wrap_fdiv, Int.neg_mul]
    omega
end Go.Proofs.YthbfjnmdjehljaaDoor.SX
