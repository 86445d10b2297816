/- The executor: states, operations. -/
import Derived.Test.YtfcpmapfhgibpaaGreatDoorWb
import Derived.Laws.StructEq
import Derived.Laws.Slices
import Derived.Deep.QuietTactic
import Derived.Laws.Tables
import Derived.Laws.Append
import Derived.Laws.MakeOwn
set_option linter.unusedVariables false
set_option linter.unusedSimpArgs false
set_option maxRecDepth 1000000
namespace Go.Proofs.YtfcpmapfhgibpaaGreatDoor
namespace SX
open Go
structure St where
 sz : Nat
 tmps : Nat -> SV
 hp : Hp
 facts : List (E × Bool)
structure Kept (w0 : World) (M : Nat -> Prop) (w : World) : Prop where
 os : w.os = w0.os
 tape : w.tape = w0.tape
 output : w.output = w0.output
 size : w0.heap.size <= w.heap.size
 block : ∀ i, i < w0.heap.size -> ¬ M i -> w.heap[i]? = w0.heap[i]?
structure ObjsOk (ρ : Env) (w0 : World) (M : Nat -> Prop) (β : Bm) (hp : Hp) (φ : Nat -> Nat -> Prop) (w : World) : Prop where
 has : ∀ (k : Nat) (b : Box) (q : Nat) (es : List E), hp.at k = some b -> b.c = .obj q es -> Ob q (E.evs ρ es) (β k).1 (φ k) w
 own : ∀ (k : Nat) (b : Box), hp.at k = some b -> b.c.isObj = true -> ∀ i, φ k i -> M i \/ w0.heap.size <= i
 apart : ∀ (j k : Nat) (b b' : Box), hp.at j = some b -> hp.at k = some b' -> b.c.isObj = true -> j ≠ k -> ∀ i, φ j i -> (b'.c.live = true -> (β k).1 ≠ i) /\ (b'.c.isObj = true -> ¬ φ k i)
structure Heap (ρ : Env) (w0 : World) (M : Nat -> Prop) (β : Bm) (hp : Hp) (w : World) : Prop where
 lies : ∀ (k : Nat) (b : Box), hp.at k = some b -> b.c.lies ρ β (β k) w
 inj : ∀ (j k : Nat) (b b' : Box), hp.at j = some b -> hp.at k = some b' -> b.c.live = true -> b'.c.live = true -> (β j).1 = (β k).1 -> j = k
 mine : ∀ (k : Nat) (b : Box), hp.at k = some b -> b.rw = true -> b.c.live = true -> M (β k).1 \/ w0.heap.size <= (β k).1
 good : ∀ (k : Nat) (b : Box), hp.at k = some b -> b.c.ok ρ hp.n
 kept : Kept w0 M w
 arrs : ∀ (k : Nat) (b : Box), hp.at k = some b -> b.c.isArr = true -> (β k).1 < w0.heap.size /\ ¬ M (β k).1
 objs : ∃ φ, ObjsOk ρ w0 M β hp φ w
theorem Bx.obj_of {c : Bx} (h : c.isObj = true) : ∃ q es, c = .obj q es := by
 cases c <;> first | exact ⟨_, _, rfl⟩ | cases h
theorem Bx.obj_dead {c : Bx} (h : c.isObj = true) : c.live = false := by
 cases c <;> first | rfl | cases h
theorem ObjsOk.lt {ρ : Env} {w0 w : World} {M : Nat -> Prop} {β : Bm} {hp : Hp} {φ : Nat -> Nat -> Prop} (h : ObjsOk ρ w0 M β hp φ w) {k : Nat} {b : Box} (hk : hp.at k = some b) (hb : b.c.isObj = true) {i : Nat} (hi : φ k i) : i < w.heap.size := by
 obtain ⟨q, es, e⟩ := Bx.obj_of hb; exact Ob_lt (h.has k b q es hk e) i hi
theorem ObjsOk.to {ρ : Env} {w0 w w' : World} {M : Nat -> Prop} {β β' : Bm} {hp hp' : Hp} {φ : Nat -> Nat -> Prop} (h : ObjsOk ρ w0 M β hp φ w)
  (ho : ∀ (k : Nat) (b : Box), hp'.at k = some b -> b.c.isObj = true -> ∃ b0, hp.at k = some b0 /\ b0.c = b.c /\ β' k = β k)
  (hl : ∀ (k : Nat) (b : Box), hp'.at k = some b -> b.c.live = true -> (∃ k0 b0, hp.at k0 = some b0 /\ b0.c.live = true /\ (β' k).1 = (β k0).1) \/ w.heap.size <= (β' k).1)
  (hw : ∀ (k : Nat) (b : Box) (i : Nat), hp.at k = some b -> b.c.isObj = true -> φ k i -> w'.heap[i]? = w.heap[i]?) : ObjsOk ρ w0 M β' hp' φ w' := by
 refine ⟨fun k b q es hk e => ?_, fun k b hk hb i hi => ?_, fun j k b b' hj hk hb hjk i hi => ⟨fun hv he => ?_, fun hb' hi' => ?_⟩⟩
 ·obtain ⟨b0, h0, e0, eb⟩ := ho k b hk (by rw [e]; rfl)
  rw [eb]; exact Ob_keep (h.has k b0 q es h0 (e0.trans e)) fun i hi => hw k b0 i h0 (by rw [e0, e]; rfl) hi
 ·obtain ⟨b0, h0, e0, eb⟩ := ho k b hk hb
  exact h.own k b0 h0 (by rw [e0]; exact hb) i hi
 ·obtain ⟨b0, h0, e0, eb⟩ := ho j b hj hb
  have hob : b0.c.isObj = true := by rw [e0]; exact hb
  rcases hl k b' hk hv with ⟨k0, b1, h1, h2, h3⟩ | h1
  ·refine (h.apart j k0 b0 b1 h0 h1 hob (fun e => ?_) i hi).1 h2 (h3.symm.trans he)
   subst e; rw [h0] at h1; obtain rfl := sinj h1; rw [Bx.obj_dead hob] at h2; cases h2
  ·have := h.lt h0 hob hi
   omega
 ·obtain ⟨b0, h0, e0, eb⟩ := ho j b hj hb
  obtain ⟨b1, h1, e1, eb1⟩ := ho k b' hk hb'; exact (h.apart j k b0 b1 h0 h1 (by rw [e0]; exact hb) hjk i hi).2 (by rw [e1]; exact hb') hi'
theorem ObjsOk.none {ρ : Env} {w0 w : World} {M : Nat -> Prop} {β : Bm} {hp : Hp} (h : ∀ (k : Nat) (b : Box), hp.at k = some b -> b.c.isObj = false) : ∃ φ, ObjsOk ρ w0 M β hp φ w :=
 ⟨fun _ _ => False, ⟨fun k b q es hk e => (by have := h k b hk; rw [e] at this; cases this), fun _ _ _ _ _ hi => hi.elim, fun _ _ _ _ _ _ _ _ _ hi => hi.elim⟩⟩
abbrev Gl := List (Nat × Nat)
structure Conc (ρ : Env) (w0 : World) (M : Nat -> Prop) (gl : Gl) (β : Bm) (st : St) (a : Act) (w : World) : Prop where
 size : a.tmps.size = st.sz
 tmps : ∀ i, i < st.sz -> a.tmps[i]? = some ((st.tmps i).ev ρ β)
 defers : a.defers = []
 good : ∀ i, i < st.sz -> (st.tmps i).ok ρ st.hp.n
 heap : Heap ρ w0 M β st.hp w
 facts : ∀ p ∈ st.facts, (p.1.ev ρ ≠ 0 ↔ p.2 = true)
 gl : ∀ p ∈ gl, (β p.2).1 = p.1 /\ p.2 < st.hp.n
def undefS : SV := .raw undef
def glookup : Gl -> Nat -> SV
 | [], g => .raw (.pointer (some ⟨g, 0, none⟩))
 | (h, k) :: l, g => if h = g then .ptr k 0 else glookup l g
def St.tmp? (st : St) (t : Nat) : Option SV := bif Nat.blt t st.sz then some (st.tmps t) else none
def St.get (gl : Gl) (st : St) : Operand -> SV
 | .tmp t => bif Nat.blt t st.sz then st.tmps t else undefS
 | .const v => ofValue v
 | .global g => glookup gl g
 | .func f => .func f [] []
def St.put (st : St) (dst : Option Tmp) (s : SV) : St :=
 match dst with
 | some d => { st with tmps := fun i => bif Nat.beq i d then s else st.tmps i }
 | none => st
section
variable {ρ : Env} {w0 : World} {M : Nat -> Prop} {gl : Gl} {β : Bm} {st : St} {a : Act} {w : World}
theorem glookup_spec {n : Nat} (hg : ∀ p ∈ gl, (β p.2).1 = p.1 /\ p.2 < n) (g : Nat) : (glookup gl g).ev ρ β = .pointer (some ⟨g, 0, none⟩) /\ (glookup gl g).ok ρ n := by
 induction gl with
 | nil => exact ⟨rfl, trivial⟩
 | cons p l ih =>
  obtain ⟨h, k⟩ := p; unfold glookup; split
  ·rename_i he
   subst he; have := hg _ (lHd ..); exact ⟨by simp only [SV.ev]; rw [this.1], this.2⟩
  ·exact ih fun p hp => hg p (lTl _ hp)
theorem Conc.tmp_ev (h : Conc ρ w0 M gl β st a w) (t : Nat) : a.tmps[t]? = (st.tmp? t).map (SV.ev ρ β) := by
 unfold St.tmp?; rw [blt_iff]
 by_cases ht : t < st.sz
 ·simp [ht, h.tmps t ht]
 ·rw [Array.getElem?_eq_none (by rw [h.size]; omega)]; simp [ht]
theorem Conc.get_ev (h : Conc ρ w0 M gl β st a w) (x : Operand) : (st.get gl x).ev ρ β = a.eval x := by
 cases x with
 | tmp t =>
  simp only [St.get, Act.eval]; rw [Array.getD_eq_getD_getElem?, h.tmp_ev t]; unfold St.tmp?; cases Nat.blt t st.sz <;> rfl
 | const v => exact ofValue_ev ρ β v
 | global g => exact (glookup_spec h.gl g).1
 | func f => rfl
theorem Conc.get_ok (h : Conc ρ w0 M gl β st a w) (x : Operand) : (st.get gl x).ok ρ st.hp.n := by
 cases x with
 | tmp t =>
  simp only [St.get, blt_iff]
  by_cases ht : t < st.sz
  ·simp only [ht, decide_true, cond_true]; exact h.good t ht
  ·simp only [ht, decide_false, cond_false]; trivial
 | const v => exact ofValue_ok ρ _ v
 | global g => exact (glookup_spec h.gl g).2
 | func f => exact ⟨trivial, trivial⟩
theorem St.put_hp (st : St) (d : Option Tmp) (s : SV) : (st.put d s).hp = st.hp := by cases d <;> rfl
theorem Conc.put (h : Conc ρ w0 M gl β st a w) {s : SV} (hs : s.ok ρ st.hp.n) (d : Option Tmp) : Conc ρ w0 M gl β (st.put d s) (a.put d (s.ev ρ β)) w := by
 cases d with
 | none => exact h
 | some d =>
  refine ⟨by simp only [Act.put, St.put, Array.size_setIfInBounds]; exact h.size, fun i hi => ?_, h.defers, fun i hi => ?_, h.heap, h.facts, h.gl⟩
  ·simp only [Act.put, St.put, beq_iff] at *
   by_cases he : i = d
   ·subst he
    simp [h.size, hi]
   ·rw [Array.getElem?_setIfInBounds_ne (Ne.symm he), h.tmps i hi]; simp [he]
  ·simp only [St.put, beq_iff]
   by_cases he : i = d
   ·simp only [he, decide_true, cond_true]; exact hs
   ·simp only [he, decide_false, cond_false]; exact h.good i hi
theorem Conc.go {β' : Bm} {hp' : Hp} {fs : List (E × Bool)} {w' : World} (h : Conc ρ w0 M gl β st a w) (hx : Ext st.hp.n β β') (hl : st.hp.n <= hp'.n) (hh : Heap ρ w0 M β' hp' w')
  (hf : ∀ p ∈ fs, (p.1.ev ρ ≠ 0 ↔ p.2 = true)) : Conc ρ w0 M gl β' { st with hp := hp', facts := fs } a w' :=
 ⟨h.size, fun i hi => by simp only; rw [SV.ev_ext hx _ (h.good i hi)]; exact h.tmps i hi, h.defers, fun i hi => SV.ok_mono hl _ (h.good i hi), hh, hf, fun p hp => by
  have := h.gl p hp; exact ⟨by rw [hx _ this.2]; exact this.1, Nat.lt_of_lt_of_le this.2 hl⟩⟩
end
def E.neg? : E -> Option E
 | .bin .eq _ x (.lit 0) => if x.isB then some x else none
 | _ => none
theorem E.neg?_spec {ρ : Env} {c x : E} (h : c.neg? = some x) : (c.ev ρ ≠ 0 ↔ x.ev ρ = 0) := by
 unfold E.neg? at h; split at h
 ·split at h
  ·obtain rfl := sinj h
   rename_i y hb
   by_cases hy : y.ev ρ = 0 <;> simp [E.ev, BOp.ev, hy]
  ·cases h
 ·cases h
def E.plain : E -> Bool
 | .bin .lt _ (.var _) (.lit _) => true
 | .bin .lt _ (.lit _) (.var _) => true
 | .bin .eq _ (.var _) (.lit _) => true
 | _ => false
def isAppT : E -> Bool
 | .bin .eq _ (.app _ _ _) (.lit _) => true
 | _ => false
def refresh (fs : List (E × Bool)) : List (E × Bool) -> List (E × Bool)
 | [] => []
 | (c, b) :: l => if isAppT c then (canon fs c, b) :: refresh fs l else refresh fs l
theorem refresh_ok {ρ : Env} {fs : List (E × Bool)} (hf : ∀ p ∈ fs, (p.1.ev ρ ≠ 0 ↔ p.2 = true)) : ∀ l : List (E × Bool), (∀ p ∈ l, (p.1.ev ρ ≠ 0 ↔ p.2 = true)) -> ∀ p ∈ refresh fs l, (p.1.ev ρ ≠ 0 ↔ p.2 = true)
 | [], _ => fun p hp => by cases hp
 | (c, b) :: l, hl => fun p hp => by
  have ih := refresh_ok hf l fun p hp => hl p (lTl _ hp)
  unfold refresh at hp; split at hp
  ·rcases mCo.1 hp with rfl | hp
   ·have := canon_ev (ρ := ρ) (fs := fs) hf c
    show (canon fs c).ev ρ ≠ 0 ↔ b = true; rw [this]; exact hl (c, b) (lHd ..)
   ·exact ih p hp
  ·exact ih p hp
def knownA (fs : List (E × Bool)) (c : E) : Option Bool :=
 match known fs c with
 | some b => some b
 | none => if isAppT c then known0 (refresh fs fs) c else none
def knownC (fs : List (E × Bool)) (c : E) : Option Bool :=
 match known fs c with
 | some b => some b
 | none => if c.plain then none else match canon fs c with
  | .lit n => some (n != 0)
  | c' => match c'.neg? with
   | some x => (known fs x).map fun b => !b
   | none => knownA fs c'
theorem knownA_spec {ρ : Env} {c : E} {b : Bool} {fs : List (E × Bool)} (hf : ∀ p ∈ fs, (p.1.ev ρ ≠ 0 ↔ p.2 = true)) (h : knownA fs c = some b) : (c.ev ρ ≠ 0 ↔ b = true) := by
 unfold knownA at h; split at h
 ·rename_i v hv; obtain rfl := sinj h; exact known_spec hf hv
 ·split at h
  ·exact known0_spec (refresh_ok hf fs hf) h
  ·cases h
theorem neg?_known {ρ : Env} {fs : List (E × Bool)} (hf : ∀ p ∈ fs, (p.1.ev ρ ≠ 0 ↔ p.2 = true)) {c x : E} {b : Bool} (hx : c.neg? = some x) (h : ((known fs x).map fun b => !b) = some b) : (c.ev ρ ≠ 0 ↔ b = true) := by
 have h1 := E.neg?_spec (ρ := ρ) hx; cases hk : known fs x with
 | none => simp [hk] at h
 | some u =>
  simp only [hk, Option.map_some, sEq] at h; have h2 := known_spec hf hk; subst h; rw [h1]; cases u
  ·have : ¬ x.ev ρ ≠ 0 := fun h => by simpa using h2.1 h
   simp only [Bool.not_false, iff_true]
   by_cases h0 : x.ev ρ = 0
   ·exact h0
   ·exact absurd h0 this
  ·have := h2.2 rfl
   simp [this]
theorem knownC_spec {ρ : Env} {c : E} {b : Bool} {fs : List (E × Bool)} (hf : ∀ p ∈ fs, (p.1.ev ρ ≠ 0 ↔ p.2 = true)) (h : knownC fs c = some b) : (c.ev ρ ≠ 0 ↔ b = true) := by
 unfold knownC at h; split at h
 ·rename_i v hv; obtain rfl := sinj h; exact known_spec hf hv
 ·have hc := canon_ev (ρ := ρ) (fs := fs) hf c
  rw [<- hc]; split at h
  ·cases h
  split at h
  ·rename_i n hn
   obtain rfl := sinj h; rw [hn]
   by_cases h0 : n = 0 <;> simp [E.ev, h0]
  ·split at h
   ·rename_i x hx; exact neg?_known hf hx h
   ·exact knownA_spec hf h
def isRd : E -> Bool
 | .rd _ _ _ => true
 | _ => false
def sumStep (fs : List (E × Bool)) (n : Int) (k : Int) (e : E) (rest : Tl) : List (E × Bool) :=
 let B := listBnd fs rest
 (match B.lo with
  | some lo => [(.bin .lt .i64 e (.lit ((n - lo).fdiv k + 1)), true)]
  | none => []) ++
 (match B.hi with
  | some hi => [(.bin .lt .i64 (.lit (-((hi - n).fdiv k) - 1)) e, true)]
  | none => [])
def sumFacts (fs : List (E × Bool)) (n : Int) : Tl -> Tl -> List (E × Bool)
 | _, [] => []
 | done, (k, e) :: l => let new := sumStep fs n k e (done ++ l); new ++ sumFacts (new ++ fs) n (done ++ [(k, e)]) l
def posRd (p : Int × E) : Bool := decide (0 < p.1) && isRd p.2
def modFacts (fs : List (E × Bool)) (n : Int) (l : Tl) : List (E × Bool) :=
 match l.filter fun p => !posRd p with
 | [(k, _)] => let a := l.filter posRd
  if n = 0 /\ k < 0 /\ inB (listBnd fs a) 0 (-k - 1) = true then sumFacts fs 0 [] a else []
 | _ => []
def orP : E -> Option (IntKind × E × E)
 | .bin .or k a b => some (k, a, b)
 | _ => none
def derive (fs : List (E × Bool)) : Nat -> E -> Int -> List (E × Bool)
 | 0, _, _ => []
 | d + 1, e, n => let L := (ana fs e).1
  match L.l with
  | [] => []
  | [(k, x)] => match orP e with
   | some (kk, a, b) => if n = 0 /\ inB (ana fs a).2 kk.min kk.max = true /\ inB (ana fs b).2 kk.min kk.max = true then derive fs d a 0 ++ derive fs d b 0 else []
   | none => if k = 0 then [] else if (n - L.c) % k = 0 then [(.bin .eq .i64 x (.lit ((n - L.c) / k)), true)] else []
  | l => if l.all fun p => decide (0 < p.1) && isRd p.2 then sumFacts fs (n - L.c) [] l else modFacts fs (n - L.c) l
theorem fdiv_le' {a b n : Int} (hb : 0 < b) (h : b * a <= n) : a <= n.fdiv b := by
 rw [iDv _ (by omega)]
 exact (Int.le_ediv_iff_mul_le hb).2 (by rw [Int.mul_comm]; exact h)
theorem evL_append (ρ : Env) : ∀ a b : Tl, evL ρ (a ++ b) = evL ρ a + evL ρ b
 | [], b => by simp [evL]
 | (k, e) :: a, b => by simp only [List.cons_append, evL, evL_append ρ a b]; omega
theorem sumStep_ok {ρ : Env} {fs : List (E × Bool)} (hf : FsOk ρ fs) {n k : Int} {e : E} {rest : Tl} (hk : 0 < k) (h : k * e.ev ρ + evL ρ rest = n) : FsOk ρ (sumStep fs n k e rest) := by
 have hB := listBnd_has hf rest; intro p hp; unfold sumStep at hp; simp only [List.mem_append] at hp; rcases hp with hp | hp
 ·split at hp
  ·rename_i lo hlo
   obtain rfl : p = _ := List.mem_singleton.1 hp; have h1 := hB.1 lo hlo; have h2 := fdiv_le' (a := e.ev ρ) (n := n - lo) hk (by omega)
   show (if e.ev ρ < (n - lo).fdiv k + 1 then (1 : Int) else 0) ≠ 0 ↔ true = true
   rw [if_pos (by omega)]; simp
  ·cases hp
 ·split at hp
  ·rename_i hi hhi
   obtain rfl : p = _ := List.mem_singleton.1 hp; have h1 := hB.2 hi hhi; have h2 := fdiv_le' (a := -(e.ev ρ)) (n := hi - n) hk (by rw [Int.mul_neg]; omega)
   show (if -((hi - n).fdiv k) - 1 < e.ev ρ then (1 : Int) else 0) ≠ 0 ↔ true = true
   rw [if_pos (by omega)]; simp
  ·cases hp
theorem fsOk_app' {ρ : Env} {a b : List (E × Bool)} (ha : FsOk ρ a) (hb : FsOk ρ b) : FsOk ρ (a ++ b) := fun p hp => (List.mem_append.1 hp).elim (ha p) (hb p)
theorem sumFacts_ok {ρ : Env} {n : Int} : ∀ (l done : Tl) {fs : List (E × Bool)}, FsOk ρ fs -> (∀ p ∈ l, 0 < p.1) -> evL ρ done + evL ρ l = n -> FsOk ρ (sumFacts fs n done l)
 | [], _, _, _, _, _ => fun p hp => by cases hp
 | (k, e) :: l, done, fs, hf, hk, h => by
  have hk0 : 0 < k := hk (k, e) (lHd ..)
  have h1 := sumStep_ok (rest := done ++ l) hf hk0 (n := n) (e := e) (by
   rw [evL_append]; simp only [evL] at h; omega)
  unfold sumFacts; refine fsOk_app' h1 (sumFacts_ok l _ (fsOk_app' h1 hf) (fun p hp => hk p (lTl _ hp)) ?_)
  rw [evL_append]; simp only [evL] at h ⊢; omega
theorem evL_filter (ρ : Env) (q : Int × E -> Bool) : ∀ l : Tl, evL ρ l = evL ρ (l.filter q) + evL ρ (l.filter fun p => !q p)
 | [] => rfl
 | (k, e) :: l => by
  have ih := evL_filter ρ q l; simp only [List.filter_cons]; cases q (k, e) <;> simp only [Bool.not_true, Bool.not_false, if_true, Bool.false_eq_true, if_false, evL] <;> omega
theorem inB_has {b : Bnd} {lo hi x : Int} (h : inB b lo hi = true) (hx : b.has x) : lo <= x /\ x <= hi := by
 unfold inB at h; split at h
 ·rename_i a c ha hc
  simp only [bAnd, dEq] at h; exact ⟨Int.le_trans h.1 (hx.1 a ha), Int.le_trans (hx.2 c hc) h.2⟩
 ·cases h
theorem modFacts_ok {ρ : Env} {fs : List (E × Bool)} (hf : FsOk ρ fs) {n : Int} (l : Tl) (h : evL ρ l = n) : FsOk ρ (modFacts fs n l) := by
 unfold modFacts; split
 ·rename_i k e hl
  simp only; split
  ·rename_i hc
   obtain ⟨rfl, hk, hb⟩ := hc; have h1 := evL_filter ρ posRd l; rw [hl, h] at h1; simp only [evL] at h1; have h2 := inB_has hb (listBnd_has hf _); have h3 : evL ρ (l.filter posRd) = (-k) * e.ev ρ := by rw [Int.neg_mul]; omega
   have h4 : e.ev ρ = 0 := by
    rcases Int.lt_trichotomy (e.ev ρ) 0 with h5 | h5 | h5
    ·have := Int.mul_le_mul_of_nonneg_left (show e.ev ρ <= -1 by omega) (show (0 : Int) <= -k by omega)
     omega
    ·exact h5
    ·have := Int.mul_le_mul_of_nonneg_left (show 1 <= e.ev ρ by omega) (show (0 : Int) <= -k by omega)
     omega
   rw [h4] at h3; refine sumFacts_ok _ _ hf (fun p hp => ?_) (by simp only [evL]; omega)
   have := (List.mem_filter.1 hp).2; simp only [posRd, bAnd, dEq] at this; exact this.1
  ·exact fun p hp => by cases hp
 ·exact fun p hp => by cases hp
theorem ofInt_zero {k : IntKind} {x : Int} (h : k.min <= x /\ x <= k.max) (h0 : (BitVec.ofInt k.bits x).toNat = 0) : x = 0 := by
 rw [BitVec.toNat_ofInt] at h0; cases k <;> simp [IntKind.min, IntKind.max, IntKind.bits, IntKind.signed] at * <;> omega
theorem or_zero {k : IntKind} {x y : Int} (hx : k.min <= x /\ x <= k.max) (hy : k.min <= y /\ y <= k.max) (h : BOp.ev .or k x y = 0) : x = 0 /\ y = 0 := by
 have hn : (BitVec.ofInt k.bits x ||| BitVec.ofInt k.bits y).toNat = 0 := by
  have hlt := (BitVec.ofInt k.bits x ||| BitVec.ofInt k.bits y).isLt
  simp only [BOp.ev] at h; generalize (BitVec.ofInt k.bits x ||| BitVec.ofInt k.bits y).toNat = m at *
  cases k <;> simp [IntKind.wrap, IntKind.bits, IntKind.signed] at * <;> omega
 have hz : BitVec.ofInt k.bits x ||| BitVec.ofInt k.bits y = 0#_ := BitVec.eq_of_toNat_eq (by rw [hn]; simp)
 rw [BitVec.or_eq_zero_iff] at hz; exact ⟨ofInt_zero hx (by rw [hz.1]; simp), ofInt_zero hy (by rw [hz.2]; simp)⟩
theorem derive_ok {ρ : Env} {fs : List (E × Bool)} (hf : FsOk ρ fs) : ∀ (d : Nat) (e : E) (n : Int), e.ev ρ = n -> FsOk ρ (derive fs d e n)
 | 0, _, _, _ => fun p hp => by unfold derive at hp; cases hp
 | d + 1, e, n, h => by
  have he := (ana_ok hf e).1; unfold Lin.ev at he; unfold derive; simp only; split
  ·exact fun p hp => by cases hp
  ·rename_i k x hl
   split
   ·rename_i kk a b ho
    have hor : e = .bin .or kk a b := by
     unfold orP at ho; split at ho
     ·simp only [sEq, Prod.mk.injEq] at ho
      obtain ⟨rfl, rfl, rfl⟩ := ho; rfl
     ·cases ho
    split
    ·rename_i hc
     obtain ⟨rfl, ha, hb⟩ := hc; have h1 := inB_has ha (ana_ok hf a).2; have h2 := inB_has hb (ana_ok hf b).2; rw [hor] at h; obtain ⟨z1, z2⟩ := or_zero h1 h2 h; exact fsOk_app' (derive_ok hf d a 0 z1) (derive_ok hf d b 0 z2)
    ·exact fun p hp => by cases hp
   ·split
    ·exact fun p hp => by cases hp
    ·rename_i hk
     split
     ·rename_i hm
      rw [hl] at he; simp only [evL] at he; intro p hp; obtain rfl : p = _ := List.mem_singleton.1 hp; show (if x.ev ρ = (n - (ana fs e).1.c) / k then (1 : Int) else 0) ≠ 0 ↔ true = true
      have h1 : n - (ana fs e).1.c = k * x.ev ρ := by omega
      rw [h1, Int.mul_ediv_cancel_left _ hk, if_pos rfl]; simp
     ·exact fun p hp => by cases hp
  ·rename_i l _ hl
   split
   ·rename_i hall
    refine sumFacts_ok _ _ hf (fun p hp => ?_) (by simp only [evL]; omega)
    have := lAl.1 hall p hp; simp only [bAnd, dEq] at this; exact this.1
   ·exact modFacts_ok hf _ (by omega)
def isSum : E -> Bool
 | .bin .or _ _ _ => true
 | .bin .zadd _ _ _ => true
 | _ => false
def more : Nat -> List (E × Bool) -> E -> Bool -> List (E × Bool)
 | 0, fs, _, _ => fs
 | d + 1, fs, .bin .band _ a b, true => more d (more d ((a, true) :: (b, true) :: fs) a true) b true
 | _ + 1, fs, .bin .eq _ e (.lit n), true => if isSum e then derive fs 6 e n ++ fs else fs
 | _ + 1, fs, _, _ => fs
theorem more_ok {ρ : Env} : ∀ (d : Nat) {fs : List (E × Bool)} (c : E) (b : Bool), FsOk ρ fs -> (c.ev ρ ≠ 0 ↔ b = true) -> FsOk ρ (more d fs c b)
 | 0, fs, c, b, hf, h => hf
 | d + 1, fs, c, b, hf, h => by
  unfold more; split
  ·rename_i heq; cases heq
  ·rename_i d' fs k a b' heq
   cases heq; have h1 := h.2 rfl; simp only [E.ev, BOp.ev] at h1
   have h2 : a.ev ρ ≠ 0 /\ b'.ev ρ ≠ 0 := by
    by_cases hx : a.ev ρ ≠ 0 /\ b'.ev ρ ≠ 0
    ·exact hx
    ·rw [if_neg hx] at h1; exact absurd rfl h1
   refine more_ok d _ _ (more_ok d _ _ (fun p hp => ?_) (by simp [h2.1])) (by simp [h2.2])
   rcases mCo.1 hp with rfl | hp
   ·simp [h2.1]
   ·rcases mCo.1 hp with rfl | hp
    ·simp [h2.2]
    ·exact hf p hp
  ·rename_i d' fs k e n heq
   cases heq; have h1 := h.2 rfl; simp only [E.ev, BOp.ev] at h1
   have h2 : e.ev ρ = n := by
    by_cases hx : e.ev ρ = n
    ·exact hx
    ·simp [hx] at h1
   split
   ·exact fsOk_app' (derive_ok hf 6 e n h2) hf
   ·exact hf
  ·exact hf
def isOr0 : E -> Bool
 | .bin .eq _ (.bin .or _ _ _) (.lit 0) => true
 | _ => false
def learn (fs : List (E × Bool)) (c : E) (b : Bool) : List (E × Bool) :=
 if c.plain then (c, b) :: fs else
 let c' := canon fs c
 if c'.beq c then (c, b) :: more 80 fs c b else match c'.neg? with
  | some x => (x, !b) :: (c, b) :: fs
  | none => (c', b) :: more 80 ((c, b) :: fs) (if isOr0 c then c else c') b
theorem learn_ok {ρ : Env} {c : E} {b : Bool} {fs : List (E × Bool)} (hf : ∀ p ∈ fs, (p.1.ev ρ ≠ 0 ↔ p.2 = true)) (h : c.ev ρ ≠ 0 ↔ b = true) : ∀ p ∈ learn fs c b, (p.1.ev ρ ≠ 0 ↔ p.2 = true) := by
 have hc := canon_ev (ρ := ρ) (fs := fs) hf c
 have base : ∀ p ∈ (c, b) :: fs, (p.1.ev ρ ≠ 0 ↔ p.2 = true) := fun p hp => by
  rcases mCo.1 hp with rfl | hp
  ·exact h
  ·exact hf p hp
 unfold learn; simp only; split
 ·exact base
 split
 ·intro p hp
  rcases mCo.1 hp with rfl | hp
  ·exact h
  ·exact more_ok 80 c b hf h p hp
 ·split
  ·rename_i x hx
   have h1 := E.neg?_spec (ρ := ρ) hx; rw [hc] at h1; intro p hp; rcases mCo.1 hp with rfl | hp
   ·show x.ev ρ ≠ 0 ↔ (!b) = true
    cases b
    ·have : ¬ c.ev ρ ≠ 0 := fun h0 => by simpa using h.1 h0
     simp only [Bool.not_false, iff_true]; exact fun h0 => this (h1.2 h0)
    ·have := h1.1 (h.2 rfl)
     simp [this]
   ·exact base p hp
  ·intro p hp
   rcases mCo.1 hp with rfl | hp
   ·show (canon fs c).ev ρ ≠ 0 ↔ b = true
    rw [hc]; exact h
   ·exact more_ok 80 _ b base (by split; exact h; rw [hc]; exact h) p hp
def clashL (fs : List (E × Bool)) : Nat -> List (E × Bool) -> Bool
 | n + 1, (c, b) :: l => (match known fs c with
  | some v => v != b
  | none => false) || clashL fs n l
 | _, _ => false
def clash (fs fs' : List (E × Bool)) : Bool := Nat.blt (fs.length + 2) fs'.length && clashL fs (fs'.length - fs.length) fs'
theorem clashL_spec {ρ : Env} {fs : List (E × Bool)} (hf : FsOk ρ fs) : ∀ {n : Nat} {l : List (E × Bool)}, clashL fs n l = true -> FsOk ρ l -> False
 | 0, l, h, _ => by unfold clashL at h; cases h
 | n + 1, [], h, _ => by unfold clashL at h; cases h
 | n + 1, (c, b) :: l, h, hl => by
  unfold clashL at h; rw [bOr] at h; rcases h with h | h
  ·split at h
   ·rename_i v hv
    have h1 := known_spec hf hv; have h2 : c.ev ρ ≠ 0 ↔ b = true := hl (c, b) (lHd ..); have : v = true ↔ b = true := h1.symm.trans h2; cases v <;> cases b <;> simp at *
   ·cases h
  ·exact clashL_spec hf h fun p hp => hl p (lTl _ hp)
theorem clash_spec {ρ : Env} {fs fs' : List (E × Bool)} (hf : FsOk ρ fs) (hf' : FsOk ρ fs') (h : clash fs fs' = true) : False := by
 unfold clash at h; rw [bAnd] at h; exact clashL_spec hf h.2 hf'
def bandOut (fs : List (E × Bool)) (c : E) : List (E × Bool) -> Bool
 | [] => false
 | (.bin .band _ x y, false) :: l => (y.beq c && known fs x == some true) || (x.beq c && known fs y == some true) || bandOut fs c l
 | _ :: l => bandOut fs c l
theorem bandOut_spec {ρ : Env} {fs : List (E × Bool)} {c : E} (hf : FsOk ρ fs) : ∀ {l : List (E × Bool)}, bandOut fs c l = true -> FsOk ρ l -> c.ev ρ = 0
 | [], h, _ => by cases h
 | p :: l, h, hl => by
  have ht : FsOk ρ l := fun q hq => hl q (lTl _ hq)
  unfold bandOut at h; split at h
  ·cases h
  ·rename_i k x y l' he
   obtain ⟨rfl, rfl⟩ := List.cons.inj he; simp only [bOr, bAnd, beq_iff_eq] at h
   have h0 : (E.bin .band k x y).ev ρ = 0 := by
    have := hl (.bin .band k x y, false) (lHd ..)
    simpa using this
   have h1 : ¬ (x.ev ρ ≠ 0 /\ y.ev ρ ≠ 0) := fun hxy => by
    have e : (E.bin .band k x y).ev ρ = 1 := by show (if x.ev ρ ≠ 0 /\ y.ev ρ ≠ 0 then (1 : Int) else 0) = 1; rw [if_pos hxy]
    rw [e] at h0; cases h0
   rcases h with (⟨h2, h3⟩ | ⟨h2, h3⟩) | h
   ·rw [<- E.beq_eq _ _ h2]
    have hx := (known_spec hf h3).2 rfl
    by_cases hy : y.ev ρ = 0
    ·exact hy
    ·exact absurd ⟨hx, hy⟩ h1
   ·rw [<- E.beq_eq _ _ h2]
    have hy := (known_spec hf h3).2 rfl
    by_cases hx : x.ev ρ = 0
    ·exact hx
    ·exact absurd ⟨hx, hy⟩ h1
   ·exact bandOut_spec hf h ht
  ·rename_i he
   obtain ⟨rfl, rfl⟩ := List.cons.inj he; exact bandOut_spec hf h ht
def split1 {α : Type} (fs : List (E × Bool)) (c : E) (f g : List (E × Bool) -> T α) : T α :=
 match c with
 | .lit n => if n = 0 then g fs else f fs
 | c => match knownC fs c with
  | some true => f fs
  | some false => g fs
  | none => if bandOut fs c fs then g (learn fs c false) else if clash fs (learn fs c true) then g (learn fs c false) else if clash fs (learn fs c false) then f (learn fs c true) else .br c (f (learn fs c true)) (g (learn fs c false))
def split {α : Type} (fs : List (E × Bool)) (c : E) (f g : List (E × Bool) -> T α) : T α :=
 match c.neg? with
 | some x => split1 fs x g f
 | none => split1 fs c f g
theorem split1_holds {α : Type} {ρ : Env} {fs : List (E × Bool)} {c : E} {f g : List (E × Bool) -> T α} {Q : α -> Prop} (hf : ∀ p ∈ fs, (p.1.ev ρ ≠ 0 ↔ p.2 = true)) (h : (split1 fs c f g).holds ρ Q) :
  ∃ fs', (∀ p ∈ fs', (p.1.ev ρ ≠ 0 ↔ p.2 = true)) /\ ((c.ev ρ ≠ 0 /\ (f fs').holds ρ Q) \/ (c.ev ρ = 0 /\ (g fs').holds ρ Q)) := by
 unfold split1 at h; split at h
 ·split at h
  ·rename_i hn; exact ⟨fs, hf, .inr ⟨hn, h⟩⟩
  ·rename_i hn; exact ⟨fs, hf, .inl ⟨hn, h⟩⟩
 ·split at h
  ·rename_i hk; exact ⟨fs, hf, .inl ⟨(knownC_spec hf hk).2 rfl, h⟩⟩
  ·rename_i hk; exact ⟨fs, hf, .inr ⟨by
    have := knownC_spec hf hk
    simpa using this, h⟩⟩
  split at h
  ·rename_i hb
   have hc := bandOut_spec hf hb hf; exact ⟨_, learn_ok hf (by simp [hc]), .inr ⟨hc, h⟩⟩
  ·split at h
   ·rename_i hcl
    by_cases hc : c.ev ρ = 0
    ·exact ⟨_, learn_ok hf (by simp [hc]), .inr ⟨hc, h⟩⟩
    ·exact (clash_spec hf (learn_ok hf (by simp [hc])) hcl).elim
   ·split at h
    ·rename_i hcl
     by_cases hc : c.ev ρ = 0
     ·exact (clash_spec hf (learn_ok hf (by simp [hc])) hcl).elim
     ·exact ⟨_, learn_ok hf (by simp [hc]), .inl ⟨hc, h⟩⟩
    ·by_cases hc : c.ev ρ = 0
     ·exact ⟨_, learn_ok hf (by simp [hc]), .inr ⟨hc, h.2 hc⟩⟩
     ·exact ⟨_, learn_ok hf (by simp [hc]), .inl ⟨hc, h.1 hc⟩⟩
theorem split_holds {α : Type} {ρ : Env} {fs : List (E × Bool)} {c : E} {f g : List (E × Bool) -> T α} {Q : α -> Prop} (hf : ∀ p ∈ fs, (p.1.ev ρ ≠ 0 ↔ p.2 = true)) (h : (split fs c f g).holds ρ Q) :
  ∃ fs', (∀ p ∈ fs', (p.1.ev ρ ≠ 0 ↔ p.2 = true)) /\ ((c.ev ρ ≠ 0 /\ (f fs').holds ρ Q) \/ (c.ev ρ = 0 /\ (g fs').holds ρ Q)) := by
 unfold split at h; split at h
 ·rename_i x hx
  have hs := E.neg?_spec (ρ := ρ) hx; obtain ⟨fs', hf', h'⟩ := split1_holds hf h; refine ⟨fs', hf', ?_⟩; rcases h' with ⟨h1, h2⟩ | ⟨h1, h2⟩
  ·exact .inr ⟨by
    by_cases hc : c.ev ρ = 0
    ·exact hc
    ·exact absurd (hs.1 hc) h1, h2⟩
  ·exact .inl ⟨hs.2 h1, h2⟩
 ·exact split1_holds hf h
section
variable (P : Program)
def szOf (t : TypeId) : Option Nat := (P.info? t).map (·.size)
def aggT (t : TypeId) : Option Bool :=
 match P.underlying t with
 | some (.struct _) | some (.array _ _) => some true
 | some _ => some false
 | none => none
def partS (t : TypeId) (l : List SV) (off : Nat) : Option SV :=
 match aggT P t, szOf P t with
 | some true, some n => if off + n <= l.length then some (.agg ((l.drop off).take n)) else none
 | some false, some _ => l[off]?
 | _, _ => none
def cellsAt (hp : Hp) (b : Nat) : Option (List SV) :=
 match hp.at b with
 | some ⟨_, .cells c _ _⟩ => some c
 | some ⟨_, .ro c _⟩ => some c
 | some ⟨_, .view o _⟩ => match hp.at o with
  | some ⟨_, .cells c _ _⟩ => some c
  | some ⟨_, .ro c _⟩ => some c
  | _ => none
 | _ => none
def loadS (hp : Hp) (t : TypeId) (s : SV) : Option SV :=
 match s with
 | .ptr b off => match cellsAt hp b with
  | some c => partS P t c off
  | none => none
 | _ => none
def fieldS (t : TypeId) (s : SV) (f : Nat) : Option SV :=
 match P.underlying t, s with
 | some (.struct fs), .agg l => match fs[f]? with
  | some fd => partS P fd.type l fd.offset
  | none => none
 | _, _ => none
def faddrS (t : TypeId) (s : SV) (f : Nat) : Option SV :=
 match P.underlying t, s with
 | some (.struct fs), .ptr b off => match fs[f]? with
  | some fd => match szOf P fd.type with
   | some (_ + 1) => some (.ptr b (off + fd.offset))
   | _ => none
  | none => none
 | _, _ => none
def natLit (s : SV) : Option Nat :=
 match s with
 | .int _ (.lit (.ofNat n)) => some n
 | _ => none
def iaddrS (t : TypeId) (s i : SV) : Option SV :=
 match P.underlying t, s, natLit i with
 | some (.array len e), .ptr b off, some n => match szOf P e with
  | some z => if n < len then some (.ptr b (off + n * z)) else none
  | none => none
 | some (.slice e), .slice b off len _, some n => match szOf P e with
  | some z => if n < len then some (.ptr b (off + n * z)) else none
  | none => none
 | _, _, _ => none
def indexS (t : TypeId) (s i : SV) : Option SV :=
 match P.underlying t, s, natLit i with
 | some (.array len e), .agg l, some n => match szOf P e with
  | some z => if n < len then partS P e l (n * z) else none
  | none => none
 | _, _, _ => none
def unsignedK : IntKind -> Bool
 | .u8 | .u16 | .u32 | .u64 => true
 | _ => false
def notNeg (k : IntKind) (e : E) : Bool :=
 unsignedK k || (match e with | .lit (.ofNat _) => true | _ => false)
def notZero (e : E) : Bool :=
 match e with
 | .lit n => n != 0
 | _ => false
def neg (e : E) : E :=
 match e with
 | .lit n => .lit (if n = 0 then 1 else 0)
 | e => match e.neg? with
  | some x => x
  | none => .bin .eq .i64 e (.lit 0)
def isB' (e : E) : Bool :=
 match e with
 | .lit n => n == 0 || n == 1
 | e => e.isB
def toB (e : E) : E := if isB' e then e else .bin .eq .i64 (.bin .eq .i64 e (.lit 0)) (.lit 0)
def intS (op : BinOp) (k : IntKind) (a b : E) : Option SV :=
 match op with
 | .add => some (.int k (mk .add k a b))
 | .sub => some (.int k (mk .sub k a b))
 | .mul => some (.int k (mk .mul k a b))
 | .and => some (.int k (mk .and k a b))
 | .or => some (.int k (mk .or k a b))
 | .xor => some (.int k (mk .xor k a b))
 | .andNot => some (.int k (mk .andNot k a b))
 | .quo => if notZero b then some (.int k (mk .quo k a b)) else none
 | .rem => if notZero b then some (.int k (mk .rem k a b)) else none
 | .eql => some (.bool (mk .eq k a b))
 | .neq => some (.bool (neg (mk .eq k a b)))
 | .lss => some (.bool (mk .lt k a b))
 | .gtr => some (.bool (mk .lt k b a))
 | .leq => some (.bool (neg (mk .lt k b a)))
 | .geq => some (.bool (neg (mk .lt k a b)))
 | _ => none
def eqS : Nat -> TypeId -> SV -> SV -> Option E
 | 0, _, _, _ => none
 | d + 1, t, x, y =>
  match P.underlying t, x, y with
  | some .bool, .bool a, .bool b => some (mk .eq .i64 (toB a) (toB b))
  | some (.int _), .int k a, .int k' b => if kTag k = kTag k' then some (mk .eq k a b) else none
  | some (.pointer _), .raw (.pointer none), .raw (.pointer none) => some (.lit 1)
  | some (.pointer _), .raw (.pointer none), .ptr _ _ => some (.lit 0)
  | some (.pointer _), .ptr _ _, .raw (.pointer none) => some (.lit 0)
  | some (.slice _), .raw (.slice none _ _), .raw (.slice none _ _) => some (.lit 1)
  | some (.slice _), .raw (.slice none _ _), .slice _ _ _ _ => some (.lit 0)
  | some (.slice _), .slice _ _ _ _, .raw (.slice none _ _) => some (.lit 0)
  | some (.struct fs), .agg l, .agg m =>
   if P.stoodInHeld t then none else
   fs.toList.foldr (fun f acc => if f.name = "_" then acc else
    match partS P f.type l f.offset, partS P f.type m f.offset with
    | some u, some v => match eqS d f.type u v, acc with
     | some e, some r => some (mk .band .i64 e r)
     | _, _ => none
    | _, _ => none) (some (.lit 1))
  | _, _, _ => none
def eqBytes : List E -> List E -> E
 | [], [] => .lit 1
 | a :: l, b :: m => mk .band .i64 (mk .eq .u8 a b) (eqBytes l m)
 | _, _ => .lit 0
def binS (op : BinOp) (t : TypeId) (x y : SV) : Option SV :=
 match op, x, y with
 | .shl, .int k a, .int j b => if notNeg j b then some (.int k (mk .shl k a b)) else none
 | .shr, .int k a, .int j b => if notNeg j b then some (.int k (mk .shr k a b)) else none
 | op, .int k a, .int j b => if kTag k = kTag j then intS op k a b else none
 | .eql, .str l, .str m => some (.bool (eqBytes l m))
 | .eql, x, y => (eqS P 8 t x y).map fun e => .bool e
 | .neq, x, y => (eqS P 8 t x y).map fun e => .bool (neg e)
 | _, _, _ => none
def unS (op : UnOp) (s : SV) : Option SV :=
 match op, s with
 | .neg, .int k e => some (.int k (mk .sub k (.lit 0) e))
 | .xor, .int k e => some (.int k (mk .xor k (.lit (if k.signed then -1 else k.max)) e))
 | .not, .bool e => some (.bool (neg e))
 | _, _ => none
def convS (src dst : TypeId) (s : SV) : Option SV :=
 match P.underlying src, P.underlying dst, s with
 | some _, some (.int k), .int _ e => some (.int k (mk .conv k e (.lit 0)))
 | _, _, _ => none
end
section
variable {P : Program} {ρ : Env} {β : Bm} {w : World} {n : Nat}
theorem aggT_run {t : TypeId} {b : Bool} (h : aggT P t = some b) (w : World) : (isAgg t).run P w = .ok b w := by
 unfold aggT at h; cases hu : P.underlying t with
 | none => simp [hu] at h
 | some d => cases d <;> simp [hu] at h <;> subst h <;> simp [isAgg, run_underlying hu]
theorem szOf_run {t : TypeId} {z : Nat} (h : szOf P t = some z) (w : World) : (sizeOf t).run P w = .ok z w := by
 unfold szOf at h; cases hi : P.info? t with
 | none => simp [hi] at h
 | some i => simp [hi] at h; subst h; simp [sizeOf, typeInfo, hi]
theorem oks_part {l : List SV} (h : SV.oks ρ n l) (i j : Nat) : SV.oks ρ n ((l.drop i).take j) := by
 rw [SV.oks_mem] at *; exact fun s hs => h s (List.mem_of_mem_drop (List.mem_of_mem_take hs))
theorem oks_get {l : List SV} {i : Nat} {s : SV} (h : SV.oks ρ n l) (hs : l[i]? = some s) : s.ok ρ n := SV.oks_mem.1 h s (List.mem_of_getElem? hs)
theorem partS_run {t : TypeId} {l : List SV} {off : Nat} {r : SV} (hl : SV.oks ρ n l) (h : partS P t l off = some r) (rest : List Value) (w : World) :
  (part t (SV.evs ρ β l ++ rest).toArray off).run P w = .ok (r.ev ρ β) w /\ r.ok ρ n := by
 unfold partS at h; split at h
 ·rename_i z ha hz
  split at h
  ·rename_i hle
   obtain rfl := sinj h; refine ⟨?_, oks_part hl _ _⟩; simp only [part, Sem.run_bind, aggT_run ha w, aOk, if_true, szOf_run hz w, Sem.run_pure, SV.ev]; congr 2; rw [SV.evs_map, SV.evs_map]; apply Array.ext'; simp only [List.extract_toArray, List.extract_eq_take_drop]; rw [List.drop_append_of_le_length (by simp; omega), List.take_append_of_le_length (by simp; omega)]
   simp [List.map_take, List.map_drop]
  ·cases h
 ·rename_i z ha hz
  refine ⟨?_, oks_get hl h⟩; have hlt := (lSo.1 h).1
  have : (SV.evs ρ β l ++ rest).toArray[off]? = some (r.ev ρ β) := by
   rw [List.getElem?_toArray, lAp (by rw [SV.evs_map]; simpa using hlt), SV.evs_map, lMp, h]
   rfl
  simp only [part, Sem.run_bind, aggT_run ha w, aOk, Bool.false_eq_true, if_false, this, Sem.run_pure]
 ·cases h
theorem add_lit (b o i : Nat) : (⟨b, o, none⟩ : Addr).add i = ⟨b, o + i, none⟩ := by
 unfold Addr.add; split
 ·rename_i h; subst h; rfl
 ·rfl
theorem Bx.lies_cells {c : List SV} {ty : TypeId} {tail : Nat} {b : Nat × Nat} (h : (Bx.cells c ty tail).lies ρ β b w) : ∃ rest : List Value, w.heap[b.1]? = some (.cells (SV.evs ρ β c ++ rest).toArray ty (0, 0)) := by
 cases tail with
 | zero => exact ⟨[], by simpa [Bx.lies] using h⟩
 | succ s => obtain ⟨rest, h1, _⟩ := h; exact ⟨rest, h1⟩
structure Sees (ρ : Env) (β : Bm) (n : Nat) (hp : Hp) (w : World) : Prop where
 lies : ∀ (k : Nat) (b : Box), hp.at k = some b -> b.c.lies ρ β (β k) w
 good : ∀ (k : Nat) (b : Box), hp.at k = some b -> b.c.ok ρ n
theorem cellsAt_spec {hp : Hp} {b : Nat} {c : List SV} (hs : Sees ρ β n hp w) (h : cellsAt hp b = some c) : (∀ (j : Nat) (v : Value), (SV.evs ρ β c)[j]? = some v -> w.cell? ⟨(β b).1, j, none⟩ = some v) /\ SV.oks ρ n c := by
 unfold cellsAt at h; split at h
 ·rename_i ty tail hb
  obtain rfl := sinj h; obtain ⟨rest, hg⟩ := Bx.lies_cells (hs.lies _ _ hb); refine ⟨fun j v hv => ?_, hs.good _ _ hb⟩
  rw [cell_of_row w _ j _ _ _ hg, List.getElem?_toArray, lAp (lSo.1 hv).1]; exact hv
 ·rename_i hb
  obtain rfl := sinj h; exact ⟨(hs.lies _ _ hb).1, hs.good _ _ hb⟩
 ·rename_i r o l hb
  have hv := (hs.lies _ _ hb).1; rw [hv]; split at h
  ·rename_i ho
   obtain rfl := sinj h; obtain ⟨rest, hg⟩ := Bx.lies_cells (hs.lies _ _ ho); refine ⟨fun j v hv => ?_, hs.good _ _ ho⟩
   rw [cell_of_row w _ j _ _ _ hg, List.getElem?_toArray, lAp (lSo.1 hv).1]; exact hv
  ·rename_i ho
   obtain rfl := sinj h; exact ⟨(hs.lies _ _ ho).1, hs.good _ _ ho⟩
  ·cases h
 ·cases h
theorem loadS_run {hp : Hp} {t : TypeId} {s r : SV} (hs : Sees ρ β n hp w) (h : loadS P hp t s = some r) : (Instr.loadAt t (s.ev ρ β)).run P w = .ok (r.ev ρ β) w /\ r.ok ρ n := by
 unfold loadS at h; split at h
 ·rename_i b off
  split at h
  ·rename_i c hc
   obtain ⟨hcell, hgood⟩ := cellsAt_spec hs hc; have hp := partS_run (β := β) hgood h [] w; refine ⟨?_, hp.2⟩; have hp1 := hp.1; unfold partS at h; split at h
   ·rename_i z ha hz
    split at h
    ·rename_i hle
     obtain rfl := sinj h; simp only [SV.ev, Instr.loadAt, Instr.sureAddr, Sem.run_bind, Sem.run_pure, aOk, loadVar, aggT_run ha w, if_true, szOf_run hz w]
     have hl : (loadCells ⟨(β b).1, off, none⟩ (SV.evs ρ β ((c.drop off).take z)).length).run P w = .ok (SV.evs ρ β ((c.drop off).take z)).toArray w :=
      run_loadCells_list w _ _ fun j v hv => by
       rw [add_lit]; refine hcell _ v ?_; rw [SV.evs_map, lMp, List.getElem?_take] at hv; split at hv
       ·rw [List.getElem?_drop] at hv
        rw [SV.evs_map, lMp]; exact hv
       ·cases hv
     have hlen : (SV.evs ρ β ((c.drop off).take z)).length = z := by rw [SV.evs_map]; simp; omega
     rw [hlen] at hl; simp only [hl, aOk]
    ·cases h
   ·rename_i z ha hz
    have hlt := (lSo.1 h).1
    have hv : w.cell? ⟨(β b).1, off, none⟩ = some (r.ev ρ β) := by
     refine hcell _ _ ?_; rw [SV.evs_map, lMp, h]; rfl
    simp only [SV.ev, Instr.loadAt, Instr.sureAddr, Sem.run_bind, Sem.run_pure, aOk, loadVar, aggT_run ha w, Bool.false_eq_true, if_false, run_load, hv]
   ·cases h
  ·cases h
 ·cases h
theorem fieldS_run {t : TypeId} {s r : SV} {f : Nat} (hs : s.ok ρ n) (h : fieldS P t s f = some r) (w : World) : (Instr.field t (s.ev ρ β) f).run P w = .ok (r.ev ρ β) w /\ r.ok ρ n := by
 unfold fieldS at h; split at h
 ·rename_i fs l hu
  split at h
  ·rename_i fd hf
   have := partS_run (β := β) (show SV.oks ρ n l from hs) h [] w; rw [List.append_nil] at this; refine ⟨?_, this.2⟩; simp only [Instr.field, Sem.run_bind, run_underlying hu w, aOk, hf, SV.ev, asAgg, Sem.run_pure, this.1]
  ·cases h
 ·cases h
theorem faddrS_run {t : TypeId} {s r : SV} {f : Nat} (hs : s.ok ρ n) (h : faddrS P t s f = some r) (w : World) : (Instr.fieldAt t (s.ev ρ β) f).run P w = .ok (r.ev ρ β) w /\ r.ok ρ n := by
 unfold faddrS at h; split at h
 ·rename_i fs b off hu
  split at h
  ·rename_i fd hf
   split at h
   ·rename_i z hz
    obtain rfl := sinj h; refine ⟨?_, hs⟩; simp [Instr.fieldAt, run_underlying hu w, hf, SV.ev, Instr.sureAddr, fieldPlace, szOf_run hz w, add_lit]
   ·cases h
  ·cases h
 ·cases h
theorem natLit_spec {s : SV} {m : Nat} (h : natLit s = some m) : ∃ k, s = .int k (.lit (m : Int)) := by
 unfold natLit at h; split at h
 ·rename_i k m'
  obtain rfl := sinj h; exact ⟨k, rfl⟩
 ·cases h
theorem iaddrS_run {t : TypeId} {s i r : SV} (hs : s.ok ρ n) (h : iaddrS P t s i = some r) (w : World) : (Instr.indexAt t (s.ev ρ β) (i.ev ρ β)).run P w = .ok (r.ev ρ β) w /\ r.ok ρ n := by
 unfold iaddrS at h; split at h
 ·rename_i len e b off m hu hi
  obtain ⟨k, rfl⟩ := natLit_spec hi; split at h
  ·rename_i z hz
   split at h
   ·rename_i hlt
    obtain rfl := sinj h; refine ⟨?_, hs⟩; simp [Instr.indexAt, run_underlying hu w, SV.ev, E.ev, asIntOf, Instr.sureAddr, szOf_run hz w, add_lit, hlt]
   ·cases h
  ·cases h
 ·rename_i e b off len cap m hu hi
  obtain ⟨k, rfl⟩ := natLit_spec hi; split at h
  ·rename_i z hz
   split at h
   ·rename_i hlt
    obtain rfl := sinj h; refine ⟨?_, hs⟩; cases cap <;> simp [Instr.indexAt, run_underlying hu w, SV.ev, E.ev, asIntOf, Instr.sureAddr, szOf_run hz w, add_lit, hlt]
   ·cases h
  ·cases h
 ·cases h
theorem indexS_run {t : TypeId} {s i r : SV} (hs : s.ok ρ n) (h : indexS P t s i = some r) (w : World) : (Instr.index t (s.ev ρ β) (i.ev ρ β)).run P w = .ok (r.ev ρ β) w /\ r.ok ρ n := by
 unfold indexS at h; split at h
 ·rename_i len e l m hu hi
  obtain ⟨k, rfl⟩ := natLit_spec hi; split at h
  ·rename_i z hz
   split at h
   ·rename_i hlt
    have := partS_run (β := β) (show SV.oks ρ n l from hs) h [] w; rw [List.append_nil] at this; refine ⟨?_, this.2⟩; simp [Instr.index, run_underlying hu w, SV.ev, E.ev, asIntOf, szOf_run hz w, hlt, this.1]
   ·cases h
  ·cases h
 ·cases h
theorem neg_ev (ρ : Env) (e : E) : ((neg e).ev ρ ≠ 0 ↔ e.ev ρ = 0) := by
 unfold neg; split
 ·rename_i m
  by_cases hm : m = 0 <;> simp [E.ev, hm]
 ·split
  ·rename_i x hx
   have := E.neg?_spec (ρ := ρ) hx; constructor
   ·intro h
    by_cases he : e.ev ρ = 0
    ·exact he
    ·exact absurd (this.1 he) h
   ·intro h hx0
    exact (this.2 hx0) h
  ·by_cases he : e.ev ρ = 0 <;> simp [E.ev, BOp.ev, he]
theorem neg_bool (ρ : Env) (e : E) : decide ((neg e).ev ρ ≠ 0) = !decide (e.ev ρ ≠ 0) := by
 have := neg_ev ρ e
 by_cases he : e.ev ρ = 0
 ·have h1 := this.2 he; simp [he, h1]
 ·have h1 : ¬ (neg e).ev ρ ≠ 0 := fun h => he (this.1 h)
  simp only [he, ne_eq, not_false_eq_true, decide_true, Bool.not_true, decide_eq_false_iff_not]; exact h1
theorem wf_shr (k : IntKind) (x : Int) (m : Nat) (h : (Lit.int k x).wf = true) : (Lit.int k (x.fdiv (2 ^ m))).wf = true := by
 rw [wf_iff] at *; have hp : (0 : Int) < 2 ^ m := Int.pow_pos (by decide)
 have h1 : (1 : Int) <= 2 ^ m := hp; rw [iDv _ (by omega)]
 have hmin : k.min <= 0 := by cases k <;> decide
 have hmax : 0 <= k.max := by cases k <;> decide
 constructor
 ·rw [Int.le_ediv_iff_mul_le hp]
  have : k.min * 2 ^ m <= k.min * 1 := Int.mul_le_mul_of_nonpos_left hmin h1; omega
 ·rcases Int.le_total 0 x with h0 | h0
  ·have := Int.ediv_le_self (2 ^ m : Int) h0; omega
  ·have : x / 2 ^ m <= 0 / 2 ^ m := Int.ediv_le_ediv hp h0
   simp at this; omega
theorem wf_rem (k : IntKind) (x y : Int) (h : (Lit.int k x).wf = true) : (Lit.int k (x.tmod y)).wf = true := by
 rw [wf_iff] at *; have hmin : k.min <= 0 := by cases k <;> decide
 have hmax : 0 <= k.max := by cases k <;> decide
 rcases Int.le_total 0 x with h0 | h0
 ·have h1 := Int.tmod_nonneg y h0
  have h2 : x.tmod y <= x := by
   obtain ⟨a, rfl⟩ := Int.eq_ofNat_of_zero_le h0; cases y with
   | ofNat b => show ((a % b : Nat) : Int) <= a; have := Nat.mod_le a b; omega
   | negSucc b => show ((a % (b + 1) : Nat) : Int) <= a; have := Nat.mod_le a (b + 1); omega
  omega
 ·have h1 : x.tmod y <= 0 := by
   have := Int.tmod_nonneg y (show 0 <= -x by omega)
   rw [Int.neg_tmod] at this; omega
  have h2 : x <= x.tmod y := by
   have h3 : (-x).tmod y <= -x := by
    obtain ⟨a, ha⟩ := Int.eq_ofNat_of_zero_le (show 0 <= -x by omega)
    rw [ha]; cases y with
    | ofNat b => show ((a % b : Nat) : Int) <= a; have := Nat.mod_le a b; omega
    | negSucc b => show ((a % (b + 1) : Nat) : Int) <= a; have := Nat.mod_le a (b + 1); omega
   rw [Int.neg_tmod] at h3; omega
  omega
end
section
variable {P : Program} {ρ : Env} {β : Bm} {w : World} {n : Nat}
theorem wf_of_wrap (k : IntKind) (x : Int) : (Lit.int k (k.wrap x)).wf = true := wf_wrap k x
theorem notZero_spec {e : E} (ρ : Env) (h : notZero e = true) : e.ev ρ ≠ 0 := by
 unfold notZero at h; split at h
 ·simpa [E.ev] using h
 ·cases h
theorem notNeg_spec {k : IntKind} {e : E} (hw : (Lit.int k (e.ev ρ)).wf = true) (h : notNeg k e = true) : 0 <= e.ev ρ := by
 unfold notNeg at h; rw [bOr] at h; rcases h with h | h
 ·rw [wf_iff] at hw
  have : k.min = 0 := by cases k <;> first | rfl | (simp [unsignedK] at h)
  omega
 ·split at h
  ·simp [E.ev]
  ·cases h
theorem intS_run {op : BinOp} {k : IntKind} {a b : E} {r : SV} (ha : (Lit.int k (a.ev ρ)).wf = true) (hb : (Lit.int k (b.ev ρ)).wf = true) (h : intS op k a b = some r) (t : TypeId) (w : World) :
  (binOp op t (.int k (a.ev ρ)) (.int k (b.ev ρ))).run P w = .ok (r.ev ρ β) w /\ r.ok ρ n := by
 cases op <;> simp only [intS, sEq, reduceCtorEq] at h
 case add => subst h; exact ⟨by simp [binOp, Op.intArith, SV.ev, mk_ev, BOp.ev], by simp only [SV.ok, mk_ev]; exact wf_of_wrap _ _⟩
 case sub => subst h; exact ⟨by simp [binOp, Op.intArith, SV.ev, mk_ev, BOp.ev], by simp only [SV.ok, mk_ev]; exact wf_of_wrap _ _⟩
 case mul => subst h; exact ⟨by simp [binOp, Op.intArith, SV.ev, mk_ev, BOp.ev], by simp only [SV.ok, mk_ev]; exact wf_of_wrap _ _⟩
 case and => subst h; exact ⟨by simp [binOp, Op.intBits, SV.ev, mk_ev, BOp.ev], by simp only [SV.ok, mk_ev]; exact wf_of_wrap _ _⟩
 case or => subst h; exact ⟨by simp [binOp, Op.intBits, SV.ev, mk_ev, BOp.ev], by simp only [SV.ok, mk_ev]; exact wf_of_wrap _ _⟩
 case xor => subst h; exact ⟨by simp [binOp, Op.intBits, SV.ev, mk_ev, BOp.ev], by simp only [SV.ok, mk_ev]; exact wf_of_wrap _ _⟩
 case andNot => subst h; exact ⟨by simp [binOp, Op.intBits, SV.ev, mk_ev, BOp.ev], by simp only [SV.ok, mk_ev]; exact wf_of_wrap _ _⟩
 case quo =>
  split at h
  ·rename_i hz
   obtain rfl := sinj h; have := notZero_spec ρ hz; exact ⟨by simp [binOp, Op.intDiv, SV.ev, mk_ev, BOp.ev, this], by simp only [SV.ok, mk_ev]; exact wf_of_wrap _ _⟩
  ·cases h
 case rem =>
  split at h
  ·rename_i hz
   obtain rfl := sinj h; have := notZero_spec ρ hz; exact ⟨by simp [binOp, Op.intDiv, SV.ev, mk_ev, BOp.ev, this], by simp only [SV.ok, mk_ev]; exact wf_rem _ _ _ ha⟩
  ·cases h
 case eql =>
  subst h; refine ⟨?_, trivial⟩; simp only [binOp, Op.intCmp, SV.ev, mk_ev, BOp.ev, ne_eq, not_true_eq_false, if_false, Sem.run_pure]
  by_cases he : a.ev ρ = b.ev ρ <;> simp [he]
 case neq =>
  subst h; refine ⟨?_, trivial⟩; simp only [binOp, Op.intCmp, SV.ev, neg_bool, mk_ev, BOp.ev, ne_eq, not_true_eq_false, if_false, Sem.run_pure]
  by_cases he : a.ev ρ = b.ev ρ <;> simp [he]
 case lss =>
  subst h; refine ⟨?_, trivial⟩; simp only [binOp, Op.intCmp, SV.ev, mk_ev, BOp.ev, ne_eq, not_true_eq_false, if_false, Sem.run_pure]
  by_cases he : a.ev ρ < b.ev ρ <;> simp [he]
 case gtr =>
  subst h; refine ⟨?_, trivial⟩; simp only [binOp, Op.intCmp, SV.ev, mk_ev, BOp.ev, ne_eq, not_true_eq_false, if_false, Sem.run_pure]
  by_cases he : b.ev ρ < a.ev ρ <;> simp [he]
 case leq =>
  subst h; refine ⟨?_, trivial⟩; simp only [binOp, Op.intCmp, SV.ev, neg_bool, mk_ev, BOp.ev, ne_eq, not_true_eq_false, if_false, Sem.run_pure]
  by_cases he : b.ev ρ < a.ev ρ
  ·have h1 : ¬ a.ev ρ <= b.ev ρ := by omega
   simp [he, h1]
  ·have h1 : a.ev ρ <= b.ev ρ := by omega
   simp [he, h1]
 case geq =>
  subst h; refine ⟨?_, trivial⟩; simp only [binOp, Op.intCmp, SV.ev, neg_bool, mk_ev, BOp.ev, ne_eq, not_true_eq_false, if_false, Sem.run_pure]
  by_cases he : a.ev ρ < b.ev ρ
  ·have h1 : ¬ a.ev ρ >= b.ev ρ := by omega
   simp [he, h1]
  ·have h1 : a.ev ρ >= b.ev ρ := by omega
   simp [he, h1]
theorem isB'_ev {e : E} (h : isB' e = true) : e.ev ρ = 0 \/ e.ev ρ = 1 := by
 unfold isB' at h; split at h
 ·simpa [E.ev] using h
 ·exact E.isB_ev ρ h
theorem toB_ev (e : E) : ((toB e).ev ρ = 0 \/ (toB e).ev ρ = 1) /\ ((toB e).ev ρ ≠ 0 ↔ e.ev ρ ≠ 0) := by
 unfold toB; split
 ·rename_i h; exact ⟨isB'_ev h, Iff.rfl⟩
 ·simp only [E.ev, BOp.ev]
  by_cases h : e.ev ρ = 0 <;> simp [h]
theorem eqS_run : ∀ (d m : Nat) (t : TypeId) (x y : SV) (e : E), x.ok ρ n -> y.ok ρ n -> eqS P d t x y = some e ->
  ∀ w : World, (Op.equalIn (d + m) t (x.ev ρ β) (y.ev ρ β)).run P w = .ok (decide (e.ev ρ ≠ 0)) w
 | 0, _, _, _, _, _, _, _, h => by simp [eqS] at h
 | d + 1, m, t, x, y, e, hx, hy, h => by
  intro w; rw [show d + 1 + m = (d + m) + 1 by omega]
  unfold eqS at h; split at h
  ·rename_i a b hu
   obtain rfl := sinj h; simp only [SV.ev]; rw [run_equalIn_bool' w _ _ _ _ hu]; congr 1; simp only [mk_ev, BOp.ev]; obtain ⟨a1, a2⟩ := toB_ev (ρ := ρ) a; obtain ⟨b1, b2⟩ := toB_ev (ρ := ρ) b; have ea : decide (a.ev ρ ≠ 0) = decide ((toB a).ev ρ ≠ 0) := decide_eq_decide.2 a2.symm; have eb : decide (b.ev ρ ≠ 0) = decide ((toB b).ev ρ ≠ 0) := decide_eq_decide.2 b2.symm; rw [ea, eb]; rcases a1 with h1 | h1 <;> rcases b1 with h2 | h2 <;> simp [h1, h2]
  ·rename_i k k1 a k2 b hu
   split at h
   ·rename_i hk
    obtain rfl := kTag_inj hk; obtain rfl := sinj h; simp only [SV.ev]; rw [run_equalIn_int w _ _ _ _ _ _ hu]; congr 1; simp only [mk_ev, BOp.ev]
    by_cases he : a.ev ρ = b.ev ρ <;> simp [he]
   ·cases h
  ·rename_i hu; obtain rfl := sinj h; simp [SV.ev, Op.equalIn, run_underlying hu w, E.ev]
  ·rename_i hu; obtain rfl := sinj h; simp [SV.ev, Op.equalIn, run_underlying hu w, E.ev]
  ·rename_i hu; obtain rfl := sinj h; simp [SV.ev, Op.equalIn, run_underlying hu w, E.ev]
  ·rename_i hu; obtain rfl := sinj h; simp [SV.ev, Op.equalIn, run_underlying hu w, E.ev]
  ·rename_i b o l c hu; obtain rfl := sinj h; cases c <;> simp [SV.ev, Op.equalIn, run_underlying hu w, E.ev]
  ·rename_i b o l c _ _ hu; obtain rfl := sinj h; cases c <;> simp [SV.ev, Op.equalIn, run_underlying hu w, E.ev]
  ·rename_i fs l k hu
   split at h
   ·cases h
   ·rename_i hst
    have hst : P.stoodInHeld t = false := by simpa using hst
    have hfo : P.fieldsOf t = fs := by unfold Program.fieldsOf; rw [hu]
    simp only [SV.ev]; rw [run_equalIn_struct w _ _ _ _ (by rw [hfo]; exact hu) hst, hfo]
    generalize fs.toList = fl at h; clear hu hfo hst
    induction fl generalizing e w with
    | nil => obtain rfl := sinj h; simp [Op.eqFields, E.ev]
    | cons f fl ih =>
     simp only [List.foldr_cons] at h
     by_cases hn : f.name = "_"
     ·rw [if_pos hn] at h
      simp only [Op.eqFields, hn, ne_eq, not_true_eq_false, if_false]; exact ih e w h
     ·rw [if_neg hn] at h
      split at h
      ·rename_i u v hu hv
       split at h
       ·rename_i e1 r he1 hr
        obtain rfl := sinj h; have pu := partS_run (β := β) (show SV.oks ρ n l from hx) hu [] w; have pv := partS_run (β := β) (show SV.oks ρ n k from hy) hv [] w; rw [List.append_nil] at pu pv; have q := eqS_run d m f.type u v e1 pu.2 pv.2 he1 w; simp only [Op.eqFields, ne_eq, hn, not_false_eq_true, if_true, Sem.run_bind, pu.1, pv.1, aOk, q, Sem.run_ite]; have ih' := ih r w hr
        by_cases hz : e1.ev ρ = 0
        ·simp [hz, mk_ev, BOp.ev]
        ·simp only [ne_eq, hz, not_false_eq_true, decide_true, Bool.not_true, Bool.false_eq_true, if_false, ih', mk_ev, BOp.ev]
         congr 1
         by_cases hr0 : r.ev ρ = 0 <;> simp [hr0]
       ·cases h
      ·cases h
  ·cases h
theorem bytesV_eq : ∀ {l m : List E}, (∀ x ∈ E.evs ρ l, 0 <= x /\ x < 256) -> (∀ x ∈ E.evs ρ m, 0 <= x /\ x < 256) -> ((bytesV (E.evs ρ l)).toList == (bytesV (E.evs ρ m)).toList) = decide ((eqBytes l m).ev ρ ≠ 0) := by
 have hto : ∀ l : List Int, (bytesV l).toList = l.map fun n => UInt8.ofNat n.toNat := fun l => by rw [ByteArray.toList_eq]; simp [bytesV]
 intro l
 induction l with
 | nil =>
  intro m _ _; rw [hto, hto]; cases m with
  | nil => rfl
  | cons b m => rfl
 | cons a l ih =>
  intro m hl hm; rw [hto, hto]; cases m with
  | nil => rfl
  | cons b m =>
   have ha := hl (a.ev ρ) (lHd ..); have hb := hm (b.ev ρ) (lHd ..); have ih' := ih (m := m) (fun x hx => hl x (lTl _ hx)) (fun x hx => hm x (lTl _ hx))
   rw [hto, hto] at ih'
   have hab : (UInt8.ofNat (a.ev ρ).toNat == UInt8.ofNat (b.ev ρ).toNat) = decide (a.ev ρ = b.ev ρ) := by
    by_cases he : a.ev ρ = b.ev ρ
    ·simp [he]
    ·simp only [he, decide_false, beq_eq_false_iff_ne, ne_eq]
     intro h; have h2 := congrArg UInt8.toNat h; simp only [UInt8.toNat_ofNat'] at h2; rw [Nat.mod_eq_of_lt (by omega), Nat.mod_eq_of_lt (by omega)] at h2
     omega
   simp only [E.evs, List.map_cons, List.cons_beq_cons, hab, ih', eqBytes, mk_ev, BOp.ev]
   by_cases he : a.ev ρ = b.ev ρ <;> by_cases hz : (eqBytes l m).ev ρ = 0 <;> simp [he, hz]
theorem binS_run {op : BinOp} {t : TypeId} {x y r : SV} (hx : x.ok ρ n) (hy : y.ok ρ n) (h : binS P op t x y = some r) (w : World) :
  (binOp op t (x.ev ρ β) (y.ev ρ β)).run P w = .ok (r.ev ρ β) w /\ r.ok ρ n := by
 unfold binS at h; split at h
 ·split at h
  ·rename_i k a j b hn
   obtain rfl := sinj h; have := notNeg_spec hy hn; refine ⟨?_, by simp only [SV.ok, mk_ev]; exact wf_of_wrap _ _⟩
   simp only [SV.ev, binOp, Op.shift, mk_ev, BOp.ev]; rw [if_neg (by omega)]
   rfl
  ·cases h
 ·split at h
  ·rename_i k a j b hn
   obtain rfl := sinj h; have := notNeg_spec hy hn; refine ⟨?_, by simp only [SV.ok, mk_ev]; exact wf_shr _ _ _ hx⟩
   simp only [SV.ev, binOp, Op.shift, mk_ev, BOp.ev]; rw [if_neg (by omega)]
   rfl
  ·cases h
 ·split at h
  ·rename_i hk
   obtain rfl := kTag_inj hk; exact intS_run hx hy h t w
  ·cases h
 ·rename_i l m _
  obtain rfl := sinj h; refine ⟨?_, trivial⟩; simp only [SV.ev, binOp, Op.stringOp, Sem.run_pure]; rw [bytesV_eq hx hy]
 ·rename_i hne hstr
  cases he : eqS P 8 t x y with
  | none => simp [he] at h
  | some e =>
   simp only [he, Option.map_some, sEq] at h; subst h; have q := eqS_run (β := β) 8 9992 t x y e hx hy he w; refine ⟨?_, trivial⟩
   have hb : binOp .eql t (x.ev ρ β) (y.ev ρ β) = (do pure (.bool (<- Op.equal t (x.ev ρ β) (y.ev ρ β)))) := by
    unfold eqS at he
    split at he <;> first
     | rfl
     | (cases he; done)
     | (exact (hne _ _ _ _ rfl rfl).elim)
     | skip
    all_goals first | (simp only [SV.ev]; rfl) | skip
   rw [hb]; simp only [Sem.run_bind, Op.equal, Op.maxDepth, q, aOk, Sem.run_pure, SV.ev]
 ·rename_i hne
  cases he : eqS P 8 t x y with
  | none => simp [he] at h
  | some e =>
   simp only [he, Option.map_some, sEq] at h; subst h; have q := eqS_run (β := β) 8 9992 t x y e hx hy he w; refine ⟨?_, trivial⟩
   have hb : binOp .neq t (x.ev ρ β) (y.ev ρ β) = (do pure (.bool (!(<- Op.equal t (x.ev ρ β) (y.ev ρ β))))) := by
    unfold eqS at he
    split at he <;> first
     | rfl
     | (cases he; done)
     | (exact (hne _ _ _ _ rfl rfl).elim)
     | skip
    all_goals first | (simp only [SV.ev]; rfl) | skip
   rw [hb]; simp only [Sem.run_bind, Op.equal, Op.maxDepth, q, aOk, Sem.run_pure, SV.ev, neg_bool]
 ·cases h
theorem unS_run {op : UnOp} {s r : SV} (h : unS op s = some r) (w : World) : (Op.unary op (s.ev ρ β)).run P w = .ok (r.ev ρ β) w /\ r.ok ρ n := by
 unfold unS at h; split at h
 ·obtain rfl := sinj h
  exact ⟨by simp [SV.ev, Op.unary, Op.intArith, mk_ev, BOp.ev, E.ev], by simp only [SV.ok, mk_ev]; exact wf_of_wrap _ _⟩
 ·obtain rfl := sinj h
  exact ⟨by simp [SV.ev, Op.unary, Op.intBits, mk_ev, BOp.ev, E.ev], by simp only [SV.ok, mk_ev]; exact wf_of_wrap _ _⟩
 ·obtain rfl := sinj h
  exact ⟨by simp only [SV.ev, Op.unary, neg_bool, Sem.run_pure], trivial⟩
 ·cases h
theorem convS_run {src dst : TypeId} {s r : SV} (h : convS P src dst s = some r) (w : World) : (convert src dst (s.ev ρ β)).run P w = .ok (r.ev ρ β) w /\ r.ok ρ n := by
 unfold convS at h; split at h
 ·rename_i d k k' e hs hd
  obtain rfl := sinj h; refine ⟨?_, by simp only [SV.ok, mk_ev]; exact wf_of_wrap _ _⟩
  simp [convert, run_underlying hs w, run_underlying hd w, SV.ev, Conv.intToInt, mk_ev, BOp.ev]
 ·cases h
end
def SV.one : SV -> Bool
 | .raw v => v.oneCell'
 | .agg _ | .tuple _ => false
 | _ => true
def SV.cells? : SV -> Option (List SV)
 | .agg l => some l
 | s => if s.one then some [s] else none
theorem SV.one_ev (ρ : Env) (β : Bm) {s : SV} (h : s.one = true) : (s.ev ρ β).oneCell' = true := by
 cases s <;> first | rfl | (simp [SV.one] at h; done) | exact h
theorem SV.cells_spec {s : SV} {l : List SV} (h : s.cells? = some l) (ρ : Env) (β : Bm) : (s.ev ρ β).cells = (SV.evs ρ β l).toArray /\ ∀ n, s.ok ρ n -> SV.oks ρ n l := by
 unfold SV.cells? at h; split at h
 ·obtain rfl := sinj h
  exact ⟨rfl, fun n hn => hn⟩
 ·split at h
  ·rename_i ho
   obtain rfl := sinj h; refine ⟨?_, fun n hn => ⟨hn, trivial⟩⟩
   have := SV.one_ev ρ β ho; simp only [SV.evs]; generalize s.ev ρ β = v at *; cases v <;> first | rfl | (simp [Value.oneCell'] at this; done)
  ·cases h
def splice (l m : List SV) (off : Nat) : List SV := l.take off ++ m ++ l.drop (off + m.length)
def spliceV (l m : List Value) (off : Nat) : List Value := l.take off ++ m ++ l.drop (off + m.length)
theorem evs_splice (ρ : Env) (β : Bm) (l m : List SV) (off : Nat) : SV.evs ρ β (splice l m off) = spliceV (SV.evs ρ β l) (SV.evs ρ β m) off := by
 simp [splice, spliceV, SV.evs_map, List.map_take, List.map_drop]
theorem oks_splice {ρ : Env} {n : Nat} {l m : List SV} (hl : SV.oks ρ n l) (hm : SV.oks ρ n m) (off : Nat) : SV.oks ρ n (splice l m off) := by
 rw [SV.oks_mem] at *; intro s hs; rcases List.mem_append.1 hs with h | h
 ·rcases List.mem_append.1 h with h | h
  ·exact hl s (List.mem_of_mem_take h)
  ·exact hm s h
 ·exact hl s (List.mem_of_mem_drop h)
theorem length_splice {l m : List SV} {off : Nat} (h : off + m.length <= l.length) : (splice l m off).length = l.length := by
 simp [splice]; omega
theorem spliceV_cons (l : List Value) (v : Value) (m : List Value) (off : Nat) (h : off + (v :: m).length <= l.length) : spliceV l (v :: m) off = spliceV (l.set off v) m (off + 1) := by
 have h1 : off < l.length := by simp at h; omega
 unfold spliceV; apply List.ext_getElem?; intro i; simp only [List.length_cons, List.getElem?_append, List.length_append, List.length_take, List.length_set, List.getElem?_take, List.getElem?_set, List.getElem?_drop]; simp only [List.length_cons] at h; rw [show min off l.length = off by omega, show min (off + 1) l.length = off + 1 by omega]
 by_cases c1 : i < off
 ·simp [c1, show i < off + (m.length + 1) by omega, show i < off + 1 + m.length by omega, show i < off + 1 by omega, show off ≠ i by omega]
 ·by_cases c2 : i = off
  ·subst c2
   simp [h1, show i < i + (m.length + 1) by omega, show i < i + 1 + m.length by omega]
  ·by_cases c3 : i < off + 1 + m.length
   ·simp [c1, c3, show i < off + (m.length + 1) by omega, show ¬ i < off + 1 by omega, show i - off = (i - (off + 1)) + 1 by omega]
   ·simp [c1, c3, show ¬ i < off + (m.length + 1) by omega]
    rw [if_neg (by omega)]
    congr 1; omega
theorem foldl_splice (off : Nat) : ∀ (m : List Value) (k : Nat) (a : Array Value), off + k + m.length <= a.size ->
  ((m.zipIdx k).foldl (fun cs (p : Value × Nat) => cs.setIfInBounds (off + p.2) p.1) a) = (spliceV a.toList m (off + k)).toArray
 | [], k, a, h => by simp [spliceV]
 | v :: m, k, a, h => by
  simp only [List.zipIdx_cons, List.foldl_cons]; rw [foldl_splice off m (k + 1) _ (by simp at h ⊢; omega)]
  rw [spliceV_cons _ _ _ _ (by simpa using h)]
  simp [Nat.add_assoc]
def fillS (place : Nat -> Option (Nat × Nat)) : List SV -> List (Nat × SV) -> Option (List SV)
 | cells, [] => some cells
 | cells, (i, s) :: rest =>
  match place i, s.cells? with
  | some (off, size), some cs => if cs.length = size /\ off + size <= cells.length then fillS place (splice cells cs off) rest else none
  | _, _ => none
theorem fillS_spec {place : Nat -> Option (Nat × Nat)} {ρ : Env} {β : Bm} {n : Nat} : ∀ {parts : List (Nat × SV)} {cells r : List SV}, SV.oks ρ n cells -> (∀ p ∈ parts, p.2.ok ρ n) -> fillS place cells parts = some r ->
  Instr.fill place (SV.evs ρ β cells).toArray (parts.map fun p => (p.1, p.2.ev ρ β)) = some (SV.evs ρ β r).toArray /\ SV.oks ρ n r /\ r.length = cells.length
 | [], cells, r, hc, _, h => by
  obtain rfl := sinj h; exact ⟨rfl, hc, rfl⟩
 | (i, s) :: rest, cells, r, hc, hp, h => by
  unfold fillS at h; split at h
  ·rename_i off size cs hpl hcs
   split at h
   ·rename_i hle
    obtain ⟨rfl, hle⟩ := hle; obtain ⟨h1, h2⟩ := SV.cells_spec hcs ρ β; have hcs' := h2 n (hp _ (lHd ..)); obtain ⟨q1, q2, q3⟩ := fillS_spec (oks_splice hc hcs' off) (fun p hp' => hp p (lTl _ hp')) h
    refine ⟨?_, q2, q3.trans (length_splice hle)⟩; simp only [List.map_cons, Instr.fill, hpl, h1]; have hs1 : (SV.evs ρ β cs).toArray.size = cs.length := by rw [SV.evs_map]; simp
    have hs2 : (SV.evs ρ β cells).toArray.size = cells.length := by rw [SV.evs_map]; simp
    rw [if_neg (by rw [hs1, hs2]; simp; omega)]
    rw [<- q1, evs_splice]; congr 1; have := foldl_splice off (SV.evs ρ β cs) 0 (SV.evs ρ β cells).toArray (by rw [hs2, SV.evs_map]; simp; omega)
    rw [show ((SV.evs ρ β cs).toArray.zipIdx) = ((SV.evs ρ β cs).zipIdx 0).toArray by simp]
    rw [List.foldl_toArray]; exact this
   ·cases h
  ·cases h
section
variable (P : Program)
def placesS : List Field -> Option (List (Nat × Nat))
 | [] => some []
 | f :: fs => match szOf P f.type, placesS fs with
  | some z, some r => some ((f.offset, z) :: r)
  | _, _ => none
def zeroS (t : TypeId) : Option (List SV) :=
 match P.info? t with
 | some i => match i.zero with
  | some z => (ofValue z).cells?
  | none => none
 | none => none
def buildS (t : TypeId) (parts : List (Nat × SV)) : Option SV :=
 match P.underlying t, zeroS P t with
 | some (.struct fs), some z => match placesS P fs.toList with
  | some ps => (fillS (ps[·]?) z parts).map .agg
  | none => none
 | some (.array _ e), some z => match szOf P e with
  | some n => (fillS (fun i => some (i * n, n)) z parts).map .agg
  | none => none
 | _, _ => none
def boundS (s : Option SV) (d y : Nat) : Option Nat :=
 match s with
 | none => some d
 | some s => match natLit s with
  | some n => if n <= y then some n else none
  | none => none
def sliceS (t : TypeId) (x : SV) (lo hi mx : Option SV) : Option SV :=
 match mx with
 | some _ => none
 | none =>
  match P.underlying t, x with
  | some (.slice e), .slice b off len (some cap) => match boundS hi len cap, szOf P e with
   | some h, some z => match boundS lo 0 h with
    | some l => some (.slice b (if cap = l then off else off + l * z) (h - l) (some (cap - l)))
    | none => none
   | _, _ => none
  | some (.slice e), .raw (.slice none 0 0) => match boundS hi 0 0, szOf P e with
   | some h, some _ => match boundS lo 0 h with
    | some _ => some (.raw (.slice none 0 0))
    | none => none
   | _, _ => none
  | some (.array n e), .ptr b off => match boundS hi n n, szOf P e with
   | some h, some z => match boundS lo 0 h with
    | some l => some (.slice b (if n = l then off else off + l * z) (h - l) (some (n - l)))
    | none => none
   | _, _ => none
  | _, _ => none
def intLit (n : Nat) : Option SV := if inRange .i64 n then some (.int .i64 (.lit n)) else none
def builtinS (b : Builtin) (ts : Array TypeId) (args : List SV) : Option SV :=
 match b, args with
 | .len, [x] => match ts[0]? with
  | some t => match P.underlying t, x with
   | some (.slice _), .slice _ _ len _ => intLit len
   | some (.slice _), .raw (.slice _ len _) => intLit len
   | some (.array n _), _ => intLit n
   | _, _ => none
  | none => none
 | .cap, [x] => match ts[0]? with
  | some t => match P.underlying t, x with
   | some (.slice _), .slice _ _ _ (some c) => intLit c
   | _, _ => none
  | none => none
 | .min, [.int k a, .int j b] => if kTag k = kTag j then some (.int k (mk .min k a b)) else none
 | .max, [.int k a, .int j b] => if kTag k = kTag j then some (.int k (mk .max k a b)) else none
 | _, _ => none
end
section
variable {P : Program} {ρ : Env} {β : Bm} {w : World} {n : Nat}
theorem placesS_spec : ∀ {fs : List Field} {ps : List (Nat × Nat)}, placesS P fs = some ps -> fs.mapM (fun f => (P.info? f.type).map fun i => (f.offset, i.size)) = some ps
 | [], ps, h => by obtain rfl := sinj h; rfl
 | f :: fs, ps, h => by
  unfold placesS at h; split at h
  ·rename_i z r hz hr
   obtain rfl := sinj h; have := placesS_spec hr; unfold szOf at hz; cases hi : P.info? f.type with
   | none => simp [hi] at hz
   | some i => simp [hi] at hz; subst hz; simp [List.mapM_cons, hi, this]
  ·cases h
theorem zeroS_spec {t : TypeId} {z : List SV} (h : zeroS P t = some z) : (∃ (i : TypeInfo) (v : Value), P.info? t = some i /\ i.zero = some v /\ ∀ ρ β, v.cells = (SV.evs ρ β z).toArray) /\ ∀ ρ n, SV.oks ρ n z := by
 unfold zeroS at h; split at h
 ·rename_i i hi
  split at h
  ·rename_i v hv
   refine ⟨⟨i, v, hi, hv, fun ρ β => ?_⟩, fun ρ n => ?_⟩
   ·have := (SV.cells_spec h ρ β).1
    rwa [ofValue_ev] at this
   ·exact (SV.cells_spec h ρ (fun _ => (0, 0))).2 n (ofValue_ok ρ n v)
  ·cases h
 ·cases h
theorem buildS_run {t : TypeId} {parts : Array (Nat × SV)} {r : SV} (hp : ∀ p ∈ parts.toList, p.2.ok ρ n) (h : buildS P t parts.toList = some r) (w : World) :
  (Instr.build t (parts.map fun p => (p.1, p.2.ev ρ β))).run P w = .ok (r.ev ρ β) w /\ r.ok ρ n := by
 unfold buildS at h; split at h
 ·rename_i fs z hu hz
  obtain ⟨⟨i, v, hi, hv, hc⟩, hok⟩ := zeroS_spec hz; split at h
  ·rename_i ps hps
   cases hf : fillS (ps[·]?) z parts.toList with
   | none => simp [hf] at h
   | some q =>
    simp only [hf, Option.map_some, sEq] at h; subst h; obtain ⟨h1, h2, _⟩ := fillS_spec (β := β) (hok ρ n) hp hf; refine ⟨?_, h2⟩; refine run_build w t _ _ ?_; unfold Program.built; simp only [hi, hu, hv, placesS_spec hps, hc ρ β]
    simpa using h1
  ·cases h
 ·rename_i k e z hu hz
  obtain ⟨⟨i, v, hi, hv, hc⟩, hok⟩ := zeroS_spec hz; split at h
  ·rename_i m hm
   cases hf : fillS (fun i => some (i * m, m)) z parts.toList with
   | none => simp [hf] at h
   | some q =>
    simp only [hf, Option.map_some, sEq] at h; subst h; obtain ⟨h1, h2, _⟩ := fillS_spec (β := β) (hok ρ n) hp hf; refine ⟨?_, h2⟩; refine run_build w t _ _ ?_; unfold szOf at hm; cases hie : P.info? e with
    | none => simp [hie] at hm
    | some ie =>
     simp [hie] at hm; unfold Program.built; simp only [hi, hu, hv, hie, hc ρ β, hm]
     simpa using h1
  ·cases h
 ·cases h
end
section
variable {P : Program} {ρ : Env} {β : Bm} {w : World} {n : Nat}
theorem boundS_some {s : SV} {d y m : Nat} (h : boundS (some s) d y = some m) : (∃ k, s = .int k (.lit (m : Int))) /\ m <= y := by
 unfold boundS at h; simp only at h; split at h
 ·rename_i q hq
  split at h
  ·rename_i hle
   obtain rfl := sinj h; exact ⟨natLit_spec hq, hle⟩
  ·cases h
 ·cases h
theorem run_bound {s : SV} {d y m : Nat} (h : boundS (some s) d y = some m) (code : BoundsCode) (w : World) : (Instr.sliceBound (s.ev ρ β) y code).run P w = .ok m w := by
 obtain ⟨⟨k, rfl⟩, hle⟩ := boundS_some h; simp [Instr.sliceBound, SV.ev, E.ev, asIntOf, hle]
theorem run_bounds {lo hi : Option SV} {isSlice : Bool} {len cap h l : Nat} (hh : boundS hi len cap = some h) (hl : boundS lo 0 h = some l) (w : World) :
  (Instr.sliceBounds isSlice len cap (lo.map (SV.ev ρ β)) (hi.map (SV.ev ρ β)) none).run P w = .ok (l, h, cap) w := by
 cases hi with
 | none =>
  obtain rfl := sinj hh; cases lo with
  | none => obtain rfl := sinj hl; simp [Instr.sliceBounds]
  | some s => simp [Instr.sliceBounds, run_bound (P := P) (ρ := ρ) (β := β) hl _ w]
 | some s' =>
  cases lo with
  | none => obtain rfl := sinj hl; simp [Instr.sliceBounds, run_bound (P := P) (ρ := ρ) (β := β) hh _ w]
  | some s => simp [Instr.sliceBounds, run_bound (P := P) (ρ := ρ) (β := β) hh _ w, run_bound (P := P) (ρ := ρ) (β := β) hl _ w]
theorem sliceS_run {t : TypeId} {x r : SV} {lo hi mx : Option SV} (hx : x.ok ρ n) (h : sliceS P t x lo hi mx = some r) (w : World) :
  (Instr.sliceAt t (x.ev ρ β) (lo.map (SV.ev ρ β)) (hi.map (SV.ev ρ β)) (mx.map (SV.ev ρ β))).run P w = .ok (r.ev ρ β) w /\ r.ok ρ n := by
 unfold sliceS at h; split at h
 ·cases h
 ·split at h
  ·rename_i e b off len cap hu
   split at h
   ·rename_i h' z hh hz
    split at h
    ·rename_i l hl
     obtain rfl := sinj h; refine ⟨?_, hx⟩; have hb := run_bounds (P := P) (ρ := ρ) (β := β) (isSlice := true) hh hl w; simp only [Instr.sliceAt, Instr.slice, Sem.run_bind, run_underlying hu w, aOk, SV.ev, Option.getD_some, Option.map_none, hb, szOf_run hz w, Sem.run_pure]; split <;> simp [add_lit]
    ·cases h
   ·cases h
  ·rename_i e hu
   split at h
   ·rename_i h' z hh hz
    split at h
    ·rename_i l hl
     obtain rfl := sinj h; refine ⟨?_, trivial⟩; have hb := run_bounds (P := P) (ρ := ρ) (β := β) (isSlice := true) hh hl w
     have hh0 : h' = 0 := by
      cases hi with
      | none => exact (sinj hh).symm
      | some s => have := (boundS_some hh).2; omega
     have hl0 : l = 0 := by
      cases lo with
      | none => exact (sinj hl).symm
      | some s => have := (boundS_some hl).2; omega
     subst hh0 hl0; simp only [Instr.sliceAt, Instr.slice, Sem.run_bind, run_underlying hu w, aOk, SV.ev, Option.getD_some, Option.map_none, hb, szOf_run hz w, Sem.run_pure]; rfl
    ·cases h
   ·cases h
  ·rename_i k e b off hu
   split at h
   ·rename_i h' z hh hz
    split at h
    ·rename_i l hl
     obtain rfl := sinj h; refine ⟨?_, hx⟩; have hb := run_bounds (P := P) (ρ := ρ) (β := β) (isSlice := false) hh hl w; simp only [Instr.sliceAt, Instr.sureAddr, Sem.run_bind, run_underlying hu w, aOk, SV.ev, Option.getD_some, Option.map_none, hb, szOf_run hz w, Sem.run_pure]; split <;> simp [add_lit]
    ·cases h
   ·cases h
  ·cases h
theorem intLit_spec {m : Nat} {r : SV} (h : intLit m = some r) : r.ev ρ β = .int .i64 m /\ r.ok ρ n := by
 unfold intLit at h; split at h
 ·rename_i hr
  obtain rfl := sinj h; exact ⟨rfl, hr⟩
 ·cases h
theorem builtinS_run {b : Builtin} {ts : Array TypeId} {args : List SV} {r : SV} (ha : SV.oks ρ n args) (h : builtinS P b ts args = some r) (ty : TypeId) (cs : Array Bool) (w : World) :
  (builtin b ts ty cs (SV.evs ρ β args).toArray).run P w = .ok (.value (r.ev ρ β)) w /\ r.ok ρ n := by
 unfold builtinS at h; split at h
 ·rename_i x
  split at h
  ·rename_i t ht
   split at h
   ·rename_i e b' o l c hu
    obtain ⟨h1, h2⟩ := intLit_spec (ρ := ρ) (β := β) (n := n) h; refine ⟨?_, h2⟩; simp [builtin, Builtin.len_, ht, SV.evs, run_underlying hu w, SV.ev, goInt, h1]
   ·rename_i e b' l c hu
    obtain ⟨h1, h2⟩ := intLit_spec (ρ := ρ) (β := β) (n := n) h; refine ⟨?_, h2⟩; simp [builtin, Builtin.len_, ht, SV.evs, run_underlying hu w, SV.ev, goInt, h1]
   ·rename_i k e hu
    obtain ⟨h1, h2⟩ := intLit_spec (ρ := ρ) (β := β) (n := n) h; refine ⟨?_, h2⟩; simp [builtin, Builtin.len_, ht, SV.evs, run_underlying hu w, SV.ev, goInt, h1]
   ·cases h
  ·cases h
 ·rename_i x
  split at h
  ·rename_i t ht
   split at h
   ·rename_i e b' o l c hu
    obtain ⟨h1, h2⟩ := intLit_spec (ρ := ρ) (β := β) (n := n) h; refine ⟨?_, h2⟩; simp [builtin, Builtin.cap_, ht, SV.evs, run_underlying hu w, SV.ev, goInt, h1]
   ·cases h
  ·cases h
 ·rename_i k a j b
  split at h
  ·rename_i hk
   obtain rfl := kTag_inj hk; obtain rfl := sinj h; obtain ⟨h1, h2, _⟩ := ha; refine ⟨?_, ?_⟩
   ·simp [builtin, Builtin.min_, Builtin.min2, SV.evs, SV.ev, mk_ev, BOp.ev]
   ·simp only [SV.ok, mk_ev, BOp.ev]; split <;> assumption
  ·cases h
 ·rename_i k a j b
  split at h
  ·rename_i hk
   obtain rfl := kTag_inj hk; obtain rfl := sinj h; obtain ⟨h1, h2, _⟩ := ha; refine ⟨?_, ?_⟩
   ·simp [builtin, Builtin.max_, Builtin.max2, SV.evs, SV.ev, mk_ev, BOp.ev]
   ·simp only [SV.ok, mk_ev, BOp.ev]; split <;> assumption
  ·cases h
 ·cases h
end
def eqGuardOK (P : Program) (t : TypeId) (x y : SV) : Bool :=
 match x, y with
 | .agg _, .agg _ => !P.eqGuardType P.depth t
 | .raw .nilIface, _ => false
 | .raw (.agg _), _ => false
 | _, .raw (.agg _) => false
 | _, _ => true
theorem eqGuardOK_run {P : Program} {ρ : Env} {β : Bm} {t : TypeId} {x y : SV} (h : eqGuardOK P t x y = true) (op : BinOp) (X Y : Operand) (w : World) : (eqGuard op t X Y (x.ev ρ β) (y.ev ρ β)).run P w = .ok () w := by
 unfold eqGuardOK at h; split at h
 ·exact run_eqGuard_agg w op t X Y _ _ (by simpa using h)
 ·cases h
 ·cases h
 ·cases h
 ·rename_i h1 h2 h3 h4
  cases x with
  | raw v => cases v <;> first | (exact (h1 rfl).elim) | (exact (h2 _ rfl).elim) | (cases op <;> simp [eqGuard, SV.ev]; done)
  | agg l => cases y with
   | raw v => cases v <;> first | (exact (h3 _ rfl).elim) | (cases op <;> simp [eqGuard, SV.ev])
   | agg m => exact (h4 _ _ rfl rfl).elim
   | _ => cases op <;> simp [eqGuard, SV.ev]
  | _ => cases op <;> simp [eqGuard, SV.ev]
def byteEs : List SV -> Option (List E)
 | [] => some []
 | .int .u8 e :: l => (byteEs l).map fun es => e :: es
 | _ => none
def convStrS (P : Program) (hp : Hp) (src dst : TypeId) (s : SV) : Option SV :=
 match P.underlying src, P.underlying dst with
 | some (.slice e), some .string => match P.underlying e with
  | some (.int .u8) => match s with
   | .raw (.slice none _ _) => some (.str [])
   | .slice b off len _ => match cellsAt hp b with
    | some c => if off + len <= c.length then (byteEs ((c.drop off).take len)).map .str else none
    | none => none
   | _ => none
  | _ => none
 | _, _ => none
theorem byteEs_spec {ρ : Env} {β : Bm} {n : Nat} : ∀ {l : List SV} {es : List E}, SV.oks ρ n l -> byteEs l = some es -> SV.evs ρ β l = (E.evs ρ es).map (.int .u8) /\ (∀ x ∈ E.evs ρ es, 0 <= x /\ x < 256) /\ es.length = l.length
 | [], es, _, h => by obtain rfl := sinj h; exact ⟨rfl, (fun x hx => by cases hx), rfl⟩
 | s :: l, es, hk, h => by
  cases s with
  | int k e =>
   cases k <;> simp only [byteEs, reduceCtorEq] at h
   cases he : byteEs l with
   | none => simp [he] at h
   | some es' =>
    simp only [he, Option.map_some, sEq] at h; subst h; obtain ⟨a1, a2, a3⟩ := byteEs_spec (β := β) hk.2 he; refine ⟨by simp [SV.evs, E.evs, SV.ev, a1], fun x hx => ?_, by simp [a3]⟩
    rcases mCo.1 hx with rfl | hx
    ·have := (wf_iff .u8 _).1 hk.1
     simp [IntKind.min, IntKind.max, IntKind.bits, IntKind.signed] at this; omega
    ·exact a2 x hx
  | _ => cases h
theorem bytes_loop (P : Program) (w : World) (f : Value -> ByteArray -> Sem (ForInStep ByteArray)) (hf : ∀ (n : Int) (r : ByteArray), f (.int .u8 n) r = pure (ForInStep.yield (r.push (UInt8.ofNat n.toNat)))) :
  ∀ (l : List Int) (acc : ByteArray), (forIn (l.map (Value.int .u8)) acc f).run P w = .ok ⟨acc.data ++ (l.map fun n => UInt8.ofNat n.toNat).toArray⟩ w
 | [], acc => by simp
 | n :: l, acc => by
  simp only [List.map_cons, List.forIn_cons, hf, Sem.run_bind, Sem.run_pure, aOk]; rw [bytes_loop P w f hf l]; congr 2; apply Array.ext'; simp [ByteArray.push]
theorem convStrS_run {P : Program} {ρ : Env} {β : Bm} {n : Nat} {hp : Hp} {w : World} {src dst : TypeId} {s r : SV} (hs : Sees ρ β n hp w) (h : convStrS P hp src dst s = some r) : (convert src dst (s.ev ρ β)).run P w = .ok (r.ev ρ β) w /\ r.ok ρ n := by
 unfold convStrS at h; split at h
 ·rename_i e hsrc hdst
  split at h
  ·rename_i he
   split at h
   ·rename_i l c
    obtain rfl := sinj h; refine ⟨?_, (fun x hx => by cases hx)⟩
    simp [convert, run_underlying hsrc w, run_underlying hdst w, run_underlying he w, SV.ev, Conv.bytesToString, bytesV, E.evs]; rfl
   ·rename_i b off len cap
    split at h
    ·rename_i c hc
     split at h
     ·rename_i hle
      obtain ⟨hcell, hgood⟩ := cellsAt_spec hs hc; cases hb : byteEs ((c.drop off).take len) with
      | none => simp [hb] at h
      | some es =>
       simp only [hb, Option.map_some, sEq] at h; subst h; obtain ⟨a1, a2, a3⟩ := byteEs_spec (β := β) (oks_part hgood off len) hb; refine ⟨?_, a2⟩; have hlen : (SV.evs ρ β ((c.drop off).take len)).length = len := by rw [SV.evs_map]; simp; omega
       have hl : (loadCells ⟨(β b).1, off, none⟩ (SV.evs ρ β ((c.drop off).take len)).length).run P w = .ok (SV.evs ρ β ((c.drop off).take len)).toArray w :=
        run_loadCells_list w _ _ fun j v hv => by
         rw [add_lit]; refine hcell _ v ?_; rw [SV.evs_map, lMp, List.getElem?_take] at hv; split at hv
         ·rw [List.getElem?_drop] at hv
          rw [SV.evs_map, lMp]; exact hv
         ·cases hv
       rw [hlen, a1] at hl; simp only [convert, Sem.run_bind, run_underlying hsrc w, run_underlying hdst w, aOk, SV.ev, run_underlying he w, Conv.bytesToString, hl]; rw [<- Array.forIn_toList, bytes_loop P w _ (fun _ _ => rfl) (E.evs ρ es) .empty]
       simp only [aOk, Sem.run_pure, bytesV]; congr 3; apply Array.ext'; simp
     ·cases h
    ·cases h
   ·cases h
  ·cases h
 ·cases h
def pureS (P : Program) (hp : Hp) (g : Operand -> SV) (o : Oper) : Option SV :=
 match o.op with
 | .move x => some (g x)
 | .assign x => some (g x)
 | .load t a => loadS P hp t (g a)
 | .binOp op t x y _ => if eqGuardOK P t (g x) (g y) then binS P op t (g x) (g y) else none
 | .unOp op _ x => unS op (g x)
 | .convert s d x => match convS P s d (g x) with
  | some r => some r
  | none => convStrS P hp s d (g x)
 | .fieldAddr t x f => faddrS P t (g x) f
 | .field t x f => fieldS P t (g x) f
 | .indexAddr t x i => iaddrS P t (g x) (g i)
 | .index t x i => indexS P t (g x) (g i)
 | .extract x i => match g x with
  | .tuple l => l[i]?
  | _ => none
 | .makeFunc (.func f) a b => some (.func f (a.toList.map g) (b.toList.map g))
 | .nilCheck x => match g x with
  | .ptr b off => some (.ptr b off)
  | .func f a b => some (.func f a b)
  | _ => none
 | .build t ps => buildS P t (ps.toList.map fun p => (p.1, g p.2))
 | .slice t x lo hi mx => sliceS P t (g x) (lo.map g) (hi.map g) (mx.map g)
 | .call { callee := .builtin b, args := as, argTypes := ts } => builtinS P b ts (as.toList.map g)
 | .pick c a b => match g c with
  | .bool (.lit m) => some (if m = 0 then g b else g a)
  | _ => none
 | _ => none
section
variable {P : Program} {ρ : Env} {β : Bm} {w : World} {n : Nat}
theorem list_map_ev {g : Operand -> SV} {a : Act} (hg : ∀ x, (g x).ev ρ β = a.eval x) (l : Array Operand) : SV.evs ρ β (l.toList.map g) = (l.map a.eval).toList := by
 rw [SV.evs_map, List.map_map]; simp only [Array.toList_map]; exact List.map_congr_left fun x _ => hg x
theorem list_map_ok {g : Operand -> SV} (hg : ∀ x, (g x).ok ρ n) (l : List Operand) : SV.oks ρ n (l.map g) := by
 rw [SV.oks_mem]; intro s hs; obtain ⟨x, _, rfl⟩ := List.mem_map.1 hs; exact hg x
set_option maxHeartbeats 1000000 in
theorem pureS_run {hp : Hp} {g : Operand -> SV} {o : Oper} {r : SV} {a : Act} (hg : ∀ x, (g x).ev ρ β = a.eval x) (hk : ∀ x, (g x).ok ρ n) (hs : Sees ρ β n hp w) (h : pureS P hp g o = some r) :
  (execOp a.eval o).run P w = .ok (.value (r.ev ρ β)) w /\ r.ok ρ n := by
 obtain ⟨dst, op, type, pos, after, guard⟩ := o; cases op <;> simp only [pureS, reduceCtorEq] at h
 case move x => obtain rfl := sinj h; exact ⟨by simp [execOp, hg], hk x⟩
 case assign x => obtain rfl := sinj h; exact ⟨by simp [execOp, hg], hk x⟩
 case pick c x y =>
  split at h
  ·rename_i m hm
   obtain rfl := sinj h; have hc := hg c; rw [hm] at hc; refine ⟨?_, by split <;> exact hk _⟩
   simp only [execOp, <- hc, SV.ev, E.ev, asBool, Sem.run_bind, Sem.run_pure, aOk]
   by_cases h0 : m = 0 <;> simp [h0, hg]
  ·cases h
 case build t ps =>
  have := buildS_run (β := β) (n := n) (ρ := ρ) (parts := ps.map fun p => (p.1, g p.2)) (by
   intro p hp'; simp only [Array.toList_map, List.mem_map] at hp'; obtain ⟨q, _, rfl⟩ := hp'; exact hk _) (by simpa using h) w
  refine ⟨?_, this.2⟩; have h1 := this.1; simp only [Array.map_map] at h1; have he : ((fun p : Nat × SV => (p.1, SV.ev ρ β p.2)) ∘ fun p : Nat × Operand => (p.1, g p.2)) = fun p => (p.1, a.eval p.2) := funext fun p => by simp [hg]
  rw [he] at h1; simp only [execOp, Sem.run_bind]; rw [show (fun x : Nat × Operand => match x with | (i, x) => (i, a.eval x)) = fun p => (p.1, a.eval p.2) from rfl, h1]
  rfl
 case load t x =>
  have := loadS_run hs h; rw [hg] at this; exact ⟨by simp only [execOp, Sem.run_bind, this.1, aOk, Sem.run_pure], this.2⟩
 case nilCheck x =>
  split at h
  ·rename_i b off hx
   obtain rfl := sinj h; have := hg x; rw [hx] at this; exact ⟨by simp only [execOp, <- this, SV.ev, Sem.run_pure], by have := hk x; rwa [hx] at this⟩
  ·rename_i f u v hx
   obtain rfl := sinj h; have := hg x; rw [hx] at this; exact ⟨by simp only [execOp, <- this, SV.ev, Sem.run_pure], by have := hk x; rwa [hx] at this⟩
  ·cases h
 case binOp op t x y yt =>
  split at h
  ·rename_i hgd
   have := binS_run (β := β) (hk x) (hk y) h w; have h2 := eqGuardOK_run (ρ := ρ) (β := β) hgd op x y w; rw [hg, hg] at this h2; refine ⟨?_, this.2⟩; simp only [execOp, Sem.run_bind, h2, aOk, this.1, Sem.run_pure]
  ·cases h
 case unOp op t x =>
  have := unS_run (β := β) (n := n) (P := P) (ρ := ρ) h w; rw [hg] at this; exact ⟨by simp only [execOp, Sem.run_bind, this.1, aOk, Sem.run_pure], this.2⟩
 case convert s d x =>
  split at h
  ·rename_i q hq
   obtain rfl := sinj h; have := convS_run (β := β) (n := n) (P := P) (ρ := ρ) hq w; rw [hg] at this; exact ⟨by simp only [execOp, Sem.run_bind, this.1, aOk, Sem.run_pure], this.2⟩
  ·have := convStrS_run hs h
   rw [hg] at this; exact ⟨by simp only [execOp, Sem.run_bind, this.1, aOk, Sem.run_pure], this.2⟩
 case makeFunc fn u v =>
  cases fn <;> simp only [reduceCtorEq] at h
  obtain rfl := sinj h; refine ⟨?_, list_map_ok hk _, list_map_ok hk _⟩; simp only [execOp, Instr.makeFunc, Sem.run_bind, Sem.run_pure, aOk, SV.ev, list_map_ev hg, Array.toArray_toList]
 case slice t x lo hi mx =>
  have := sliceS_run (β := β) (hk x) h w; refine ⟨?_, this.2⟩; have h1 := this.1; simp only [Option.map_map, hg] at h1; have he : (SV.ev ρ β ∘ g) = a.eval := funext hg; rw [he] at h1; simp only [execOp, Sem.run_bind, h1, aOk, Sem.run_pure]
 case fieldAddr t x f =>
  have := faddrS_run (β := β) (hk x) h w; rw [hg] at this; exact ⟨by simp only [execOp, Sem.run_bind, this.1, aOk, Sem.run_pure], this.2⟩
 case field t x f =>
  have := fieldS_run (β := β) (hk x) h w; rw [hg] at this; exact ⟨by simp only [execOp, Sem.run_bind, this.1, aOk, Sem.run_pure], this.2⟩
 case indexAddr t x i =>
  have := iaddrS_run (β := β) (hk x) h w; rw [hg, hg] at this; exact ⟨by simp only [execOp, Sem.run_bind, this.1, aOk, Sem.run_pure], this.2⟩
 case index t x i =>
  have := indexS_run (β := β) (hk x) h w; rw [hg, hg] at this; exact ⟨by simp only [execOp, Sem.run_bind, this.1, aOk, Sem.run_pure], this.2⟩
 case extract x i =>
  split at h
  ·rename_i l hx
   have ex := hg x; have kx := hk x; rw [hx] at ex kx; refine ⟨?_, oks_get kx h⟩; simp only [execOp, Sem.run_bind, <- ex, SV.ev, Instr.extract]; rw [List.getElem?_toArray, SV.evs_map, lMp, h]; rfl
  ·cases h
 case call c =>
  obtain ⟨callee, args, ts⟩ := c; cases callee <;> simp only [reduceCtorEq] at h
  rename_i b; have := builtinS_run (β := β) (list_map_ok hk _) h type (args.map fun | .const _ => true | _ => false) w
  rw [list_map_ev hg, Array.toArray_toList] at this; refine ⟨?_, this.2⟩; simp only [execOp, resolve, invoke, Sem.run_bind, Sem.run_pure, aOk]; exact this.1
end
def Lk.rd (l : Lk) (a f : Nat) (i : E) : SV :=
 match l with
 | .int k => .int k (.rd a (8 * f + kTag k) i)
 | .bool => .bool (.rd a (8 * f + 3) i)
def rdL (a : Nat) (i : E) : List Lk -> Nat -> List SV
 | [], _ => []
 | l :: ls, f => l.rd a f i :: rdL a i ls (f + 1)
def inRng (fs : List (E × Bool)) (e n : E) : Bool := knownC fs (.bin .lt .i64 e (.lit 0)) == some false && knownC fs (.bin .lt .i64 e n) == some true
def leK (fs : List (E × Bool)) (a b : E) : Bool := knownC fs (.bin .lt .i64 b a) == some false
def lowE : Option SV -> Option Nat
 | none => some 0
 | some s => natLit s
def highE (len : E) : Option SV -> Option E
 | none => some len
 | some (.int _ e) => some e
 | _ => none
def elemOf (z off : Nat) (i : E) : Option (E × Nat) :=
 match i with
 | .lit (.ofNat n) => if 0 < z then some (.lit (Int.ofNat (n + off / z)), off % z) else none
 | i => if off < z then some (i, off) else none
def readI (P : Program) (a : Nat) (ks : List Lk) (t : TypeId) (i : E) (f : Nat) : Option SV :=
 match aggT P t, szOf P t with
 | some true, some m => if f + m <= ks.length then some (.agg (rdL a i ((ks.drop f).take m) f)) else none
 | some false, some _ => ks[f]?.map fun l => l.rd a f i
 | _, _ => none
def loadI (P : Program) (hp : Hp) (t : TypeId) (k z : Nat) (len0 i : E) (off : Nat) : Option SV :=
 match hp.at k with
 | some ⟨_, .arr a ks len0'⟩ => if z = ks.length /\ len0.beq len0' = true then
   match elemOf z off i with
   | some (ie, f) => readI P a ks t ie f
   | none => none
  else none
 | _ => none
def indexI (P : Program) (fs : List (E × Bool)) (t : TypeId) (k z off : Nat) (len0 len e : E) : Option SV :=
 match P.underlying t with
 | some (.slice et) => if szOf P et = some z /\ inRng fs e len = true /\ 0 < z then
   match e with
   | .lit (.ofNat n) => some (.iptr k z len0 (.lit 0) (n * z + off))
   | e => some (.iptr k z len0 e off)
  else none
 | _ => none
def sliceI (P : Program) (fs : List (E × Bool)) (t : TypeId) (k z off : Nat) (len0 len cap : E) (lo hi : Option SV) : Option SV :=
 match P.underlying t, lowE lo, highE len hi with
 | some (.slice et), some l, some h => if szOf P et = some z /\ leK fs (.lit (Int.ofNat l)) h = true /\ leK fs h len = true then
   if l = 0 then some (.inp k z off len0 h cap)
   else if knownC fs (.bin .lt .i64 (.lit (Int.ofNat l)) len) = some true then some (.inp k z (off + l * z) len0 (mk .sub .i64 h (.lit (Int.ofNat l))) (.bin .zadd .i64 cap (.lit (-Int.ofNat l))))
   else none
  else none
 | _, _, _ => none
def strI (P : Program) (hp : Hp) (fs : List (E × Bool)) (src dst : TypeId) (k z off : Nat) (len0 len : E) : Option SV :=
 match P.underlying src, P.underlying dst, hp.at k, canon fs len with
 | some (.slice e), some .string, some ⟨_, .arr a [.int .u8] len0'⟩, .lit (.ofNat n) => match P.underlying e with
  | some (.int .u8) => if z = 1 /\ len0.beq len0' = true then some (.str ((List.range n).map fun j => .rd a 4 (.lit (Int.ofNat (off + j))))) else none
  | _ => none
 | _, _, _, _ => none
def inpS (P : Program) (fs : List (E × Bool)) (hp : Hp) (g : Operand -> SV) (o : Oper) : Option SV :=
 match o.op with
 | .load t x => match g x with
  | .iptr k z len0 i off => loadI P hp t k z len0 i off
  | _ => none
 | .indexAddr t x i => match g x, g i with
  | .inp k z off len0 len _, .int _ e => indexI P fs t k z off len0 len e
  | _, _ => none
 | .fieldAddr t x f => match g x, P.underlying t with
  | .iptr k z len0 i off, some (.struct fds) => match fds[f]? with
   | some fd => match szOf P fd.type with
    | some (_ + 1) => if off % z + fd.offset < z then some (.iptr k z len0 i (off + fd.offset)) else none
    | _ => none
   | none => none
  | _, _ => none
 | .nilCheck x => match g x with
  | .iptr k z len0 i off => some (.iptr k z len0 i off)
  | _ => none
 | .slice t x lo hi none => match g x with
  | .inp k z off len0 len cap => sliceI P fs t k z off len0 len cap (lo.map g) (hi.map g)
  | _ => none
 | .convert s d x => match g x with
  | .inp k z off len0 len _ => strI P hp fs s d k z off len0 len
  | _ => none
 | .call { callee := .builtin .len, args := as, argTypes := ts } => match as.toList, ts[0]? with
  | [x], some t => match P.underlying t, g x with
   | some (.slice _), .inp _ _ _ _ len _ => some (.int .i64 len)
   | _, _ => none
  | _, _ => none
 | .binOp .eql t x y _ => match P.underlying t, g x, g y with
  | some (.slice _), .inp _ _ _ _ _ _, .raw (.slice none _ _) => some (.bool (.lit 0))
  | _, _, _ => none
 | .binOp .neq t x y _ => match P.underlying t, g x, g y with
  | some (.slice _), .inp _ _ _ _ _ _, .raw (.slice none _ _) => some (.bool (.lit 1))
  | _, _, _ => none
 | _ => none
def concN {α : Type} (e : E) (f : Int -> List (E × Bool) -> T α) : Nat -> Int -> List (E × Bool) -> T α
 | 0, m, fs => f m fs
 | n + 1, m, fs => split fs (.bin .eq .i64 e (.lit m)) (f m) (concN e f n (m + 1))
def concT {α : Type} (fs : List (E × Bool)) (e : E) (f : Int -> List (E × Bool) -> T α) : T α :=
 match (ana fs e).2.lo, (ana fs e).2.hi with
 | some lo, some hi => if lo <= hi /\ hi - lo <= 400 then concN e f (hi - lo).toNat lo fs else .bad 161
 | _, _ => .bad 160
def simpB (fs : List (E × Bool)) (s : SV) : SV :=
 match s with
 | .bool (.bin .band k a b) => match canon fs (.bin .band k a b) with
  | .lit n => .bool (.lit n)
  | _ => .bool (.bin .band k a b)
 | s => s
theorem simpB_spec {ρ : Env} {fs : List (E × Bool)} (hf : FsOk ρ fs) (s : SV) (β : Bm) (n : Nat) : (simpB fs s).ev ρ β = s.ev ρ β /\ (s.ok ρ n -> (simpB fs s).ok ρ n) := by
 unfold simpB; split
 ·rename_i k a b
  split
  ·rename_i m hm
   have := canon_ev (ρ := ρ) (fs := fs) hf (.bin .band k a b); rw [hm] at this; simp only [SV.ev, this]; exact ⟨trivial, fun _ => trivial⟩
  ·exact ⟨rfl, id⟩
 ·exact ⟨rfl, id⟩
def pureS' (P : Program) (fs : List (E × Bool)) (hp : Hp) (g : Operand -> SV) (o : Oper) : Option SV :=
 match pureS P hp g o with
 | some r => some (simpB fs r)
 | none => inpS P fs hp g o
section
variable {P : Program} {ρ : Env} {β : Bm} {w : World} {n : Nat} {fs : List (E × Bool)}
theorem inRng_spec {e m : E} (hf : FsOk ρ fs) (h : inRng fs e m = true) : 0 <= e.ev ρ /\ e.ev ρ < m.ev ρ := by
 simp only [inRng, bAnd, beq_iff_eq] at h; have h1 := knownC_spec hf h.1; have h2 := knownC_spec hf h.2; simp only [E.ev, BOp.ev] at h1 h2; constructor
 ·by_cases hx : e.ev ρ < 0
  ·simp [hx] at h1
  ·omega
 ·by_cases hx : e.ev ρ < m.ev ρ
  ·exact hx
  ·simp [hx] at h2
theorem ltK_spec {a b : E} (hf : FsOk ρ fs) (h : knownC fs (.bin .lt .i64 a b) = some true) : a.ev ρ < b.ev ρ := by
 have h2 := knownC_spec hf h; simp only [E.ev, BOp.ev] at h2
 by_cases hx : a.ev ρ < b.ev ρ
 ·exact hx
 ·simp [hx] at h2
theorem leK_spec {a b : E} (hf : FsOk ρ fs) (h : leK fs a b = true) : a.ev ρ <= b.ev ρ := by
 simp only [leK, beq_iff_eq] at h; have h2 := knownC_spec hf h; simp only [E.ev, BOp.ev] at h2
 by_cases hx : b.ev ρ < a.ev ρ
 ·simp [hx] at h2
 ·omega
theorem elemOf_spec {z off f : Nat} {i ie : E} {N : Nat} (h : elemOf z off i = some (ie, f)) (hi : 0 <= i.ev ρ) (hlt : (i.ev ρ).toNat * z + off < N * z) :
  (ie.ev ρ).toNat < N /\ f < z /\ (i.ev ρ).toNat * z + off = (ie.ev ρ).toNat * z + f := by
 unfold elemOf at h; split at h
 ·rename_i m
  split at h
  ·rename_i hz
   simp only [sEq, Prod.mk.injEq] at h; obtain ⟨rfl, rfl⟩ := h; have e0 : (E.ev ρ (.lit (Int.ofNat m))).toNat = m := rfl; have e1 : (E.ev ρ (.lit (Int.ofNat (m + off / z)))).toNat = m + off / z := rfl; rw [e0] at hlt ⊢; rw [e1]; have hd := Nat.div_add_mod off z; have hm := Nat.mod_lt off hz; have e2 : m * z + off = (m + off / z) * z + off % z := by rw [Nat.add_mul, Nat.mul_comm (off / z) z]; omega
   refine ⟨?_, hm, e2⟩; rw [e2] at hlt; refine Nat.lt_of_mul_lt_mul_right (a := z) ?_; omega
  ·cases h
 ·split at h
  ·rename_i hz
   simp only [sEq, Prod.mk.injEq] at h; obtain ⟨rfl, rfl⟩ := h; refine ⟨?_, hz, rfl⟩; refine Nat.lt_of_mul_lt_mul_right (a := z) ?_; omega
  ·cases h
theorem rd_spec {a f : Nat} {i : E} {l : Lk} (h : l.fits (ρ.rd a (l.code f) (i.ev ρ))) : (l.rd a f i).ev ρ β = l.val (ρ.rd a (l.code f) (i.ev ρ)) /\ (l.rd a f i).ok ρ n := by
 cases l
 ·exact ⟨rfl, h⟩
 ·exact ⟨rfl, trivial⟩
theorem rdL_spec {a : Nat} {i : E} : ∀ {ls : List Lk} {f : Nat}, (∀ (j : Nat) (l : Lk), ls[j]? = some l -> l.fits (ρ.rd a (l.code (f + j)) (i.ev ρ))) -> SV.oks ρ n (rdL a i ls f) /\ (rdL a i ls f).length = ls.length /\ ∀ (j : Nat) (v : Value), (SV.evs ρ β (rdL a i ls f))[j]? = some v -> ∃ l : Lk, ls[j]? = some l /\ v = l.val (ρ.rd a (l.code (f + j)) (i.ev ρ))
 | [], f, _ => ⟨trivial, rfl, fun j v hv => by simp [rdL, SV.evs] at hv⟩
 | l :: ls, f, h => by
  obtain ⟨a1, a2, a3⟩ := rdL_spec (ls := ls) (f := f + 1) fun j l' hl => by
   have := h (j + 1) l' (by simpa using hl)
   rwa [show f + 1 + j = f + (j + 1) by omega]
  have h0 := h 0 l rfl; obtain ⟨b1, b2⟩ := rd_spec (β := β) (n := n) h0; refine ⟨⟨b2, a1⟩, by simp [rdL, a2], fun j v hv => ?_⟩
  match j with
  | 0 =>
   simp only [rdL, SV.evs, List.getElem?_cons_zero, sEq] at hv; exact ⟨l, rfl, by rw [<- hv]; exact b1⟩
  | j + 1 =>
   simp only [rdL, SV.evs, List.getElem?_cons_succ] at hv; obtain ⟨l', c1, c2⟩ := a3 j v hv; exact ⟨l', by simpa using c1, by rw [c2, show f + 1 + j = f + (j + 1) by omega]⟩
theorem loadI_run {hp : Hp} {t : TypeId} {k z off : Nat} {len0 i : E} {r : SV} (hs : Sees ρ β n hp w) (hk : (SV.iptr k z len0 i off).ok ρ n) (h : loadI P hp t k z len0 i off = some r) :
  (Instr.loadAt t ((SV.iptr k z len0 i off).ev ρ β)).run P w = .ok (r.ev ρ β) w /\ r.ok ρ n := by
 unfold loadI at h; split at h
 ·rename_i rw_ a ks len0' hb
  split at h
  ·rename_i hc
   obtain ⟨hz, hl0⟩ := hc; obtain rfl := E.beq_eq _ _ hl0; have hl := hs.lies k _ hb; simp only [Bx.lies] at hl; split at h
   ·rename_i ie f he
    obtain ⟨c1, c2, c3⟩ := elemOf_spec (N := (len0.ev ρ).toNat) he hk.2.1 hk.2.2
    have hie : 0 <= ie.ev ρ := by
     unfold elemOf at he; split at he
     ·split at he
      ·simp only [sEq, Prod.mk.injEq] at he
       obtain ⟨rfl, _⟩ := he; exact Int.natCast_nonneg _
      ·cases he
     ·split at he
      ·simp only [sEq, Prod.mk.injEq] at he
       obtain ⟨rfl, _⟩ := he; exact hk.2.1
      ·cases he
    have hnat : ((ie.ev ρ).toNat : Int) = ie.ev ρ := Int.toNat_of_nonneg hie
    have hcell : ∀ (g : Nat) (l : Lk), ks[g]? = some l -> w.cell? ⟨(β k).1, (β k).2 + ((ie.ev ρ).toNat * z + g), none⟩ = some (l.val (ρ.rd a (l.code g) (ie.ev ρ))) /\ l.fits (ρ.rd a (l.code g) (ie.ev ρ)) := fun g l hg => by
     have := hl (ie.ev ρ).toNat g l c1 hg; rw [hnat, <- hz] at this; exact this
    simp only [SV.ev]; rw [c3]; unfold readI at h; split at h
    ·rename_i m ha hm
     split at h
     ·rename_i hfm
      obtain rfl := sinj h
      have hget : ∀ j l, ((ks.drop f).take m)[j]? = some l -> ks[f + j]? = some l := fun j l hj => by
       rw [List.getElem?_take] at hj; split at hj
       ·rwa [List.getElem?_drop] at hj
       ·cases hj
      obtain ⟨a1, a2, a3⟩ := rdL_spec (ρ := ρ) (β := β) (n := n) (a := a) (i := ie) (ls := (ks.drop f).take m) (f := f) fun j l hj => (hcell _ l (hget j l hj)).2
      refine ⟨?_, a1⟩; have hlen : (SV.evs ρ β (rdL a ie ((ks.drop f).take m) f)).length = m := by rw [SV.evs_map]; simp [a2]; omega
      have hld : (loadCells ⟨(β k).1, (β k).2 + ((ie.ev ρ).toNat * z + f), none⟩ (SV.evs ρ β (rdL a ie ((ks.drop f).take m) f)).length).run P w = .ok (SV.evs ρ β (rdL a ie ((ks.drop f).take m) f)).toArray w :=
       run_loadCells_list w _ _ fun j v hv => by
        obtain ⟨l, e1, e2⟩ := a3 j v hv; rw [add_lit, e2, show (β k).2 + ((ie.ev ρ).toNat * z + f) + j = (β k).2 + ((ie.ev ρ).toNat * z + (f + j)) by omega]
        exact (hcell _ l (hget j l e1)).1
      rw [hlen] at hld; simp only [SV.ev, Instr.loadAt, Instr.sureAddr, Sem.run_bind, Sem.run_pure, aOk, loadVar, aggT_run ha w, if_true, szOf_run hm w, hld]
     ·cases h
    ·rename_i m ha hm
     cases hg : ks[f]? with
     | none => simp [hg] at h
     | some l =>
      simp only [hg, Option.map_some, sEq] at h; subst h; obtain ⟨d1, d2⟩ := hcell f l hg; obtain ⟨b1, b2⟩ := rd_spec (β := β) (n := n) d2; refine ⟨?_, b2⟩; rw [b1]; simp only [Instr.loadAt, Instr.sureAddr, Sem.run_bind, Sem.run_pure, aOk, loadVar, aggT_run ha w, Bool.false_eq_true, if_false, run_load, d1]
    ·cases h
   ·cases h
  ·cases h
 ·cases h
theorem run_boundE {k : IntKind} {e : E} {y : Nat} (h0 : 0 <= e.ev ρ) (h1 : e.ev ρ <= y) (code : BoundsCode) (w : World) : (Instr.sliceBound ((SV.int k e).ev ρ β) y code).run P w = .ok (e.ev ρ).toNat w := by
 have n1 : ¬ e.ev ρ < 0 := by omega
 have n2 : ¬ (y : Int) < e.ev ρ := by omega
 simp [Instr.sliceBound, SV.ev, asIntOf, h0, h1, n1, n2]
theorem run_boundsE {lo hi : Option SV} {len h : E} {cap : Nat} {l : Nat} (hl : lowE lo = some l) (hh : highE len hi = some h) (h0 : (l : Int) <= h.ev ρ) (h1 : h.ev ρ <= cap) (w : World) :
  (Instr.sliceBounds true (len.ev ρ).toNat cap (lo.map (SV.ev ρ β)) (hi.map (SV.ev ρ β)) none).run P w = .ok (l, (h.ev ρ).toNat, cap) w := by
 have hlo : ∀ code, ∀ s, lo = some s -> (Instr.sliceBound (s.ev ρ β) (h.ev ρ).toNat code).run P w = .ok l w := fun code s hs => by
  subst hs; obtain ⟨k, rfl⟩ := natLit_spec hl; have n2 : ¬ (h.ev ρ).toNat < l := by omega
  have n3 : l <= (h.ev ρ).toNat := by omega
  simp [Instr.sliceBound, SV.ev, E.ev, asIntOf, n2, n3]; omega
 cases hi with
 | none =>
  obtain rfl := sinj hh; cases lo with
  | none => obtain rfl := sinj hl; simp [Instr.sliceBounds]
  | some s => simp [Instr.sliceBounds, hlo _ s rfl]
 | some s' =>
  have hhi : ∀ code, (Instr.sliceBound (s'.ev ρ β) cap code).run P w = .ok (h.ev ρ).toNat w := fun code => by
   unfold highE at hh; split at hh
   ·rename_i he; cases he
   ·rename_i k e he
    obtain rfl := sinj hh; obtain rfl := sinj he; exact run_boundE (by omega) h1 code w
   ·cases hh
  cases lo with
  | none => obtain rfl := sinj hl; simp [Instr.sliceBounds, hhi]
  | some s => simp [Instr.sliceBounds, hhi, hlo _ s rfl]
theorem indexI_run {t : TypeId} {k z off : Nat} {len0 len cap e : E} {ki : IntKind} {r : SV} (hf : FsOk ρ fs) (hk : (SV.inp k z off len0 len cap).ok ρ n) (h : indexI P fs t k z off len0 len e = some r) (w : World) :
  (Instr.indexAt t ((SV.inp k z off len0 len cap).ev ρ β) ((SV.int ki e).ev ρ β)).run P w = .ok (r.ev ρ β) w /\ r.ok ρ n := by
 unfold indexI at h; split at h
 ·rename_i et hu
  split at h
  ·rename_i hc
   obtain ⟨hz, hr, hz0⟩ := hc; obtain ⟨r1, r2⟩ := inRng_spec hf hr; obtain ⟨k1, k2, k3, k4, k5⟩ := hk; have hlt : (e.ev ρ).toNat < (len.ev ρ).toNat := by omega
   have hbd : (e.ev ρ).toNat * z + off < (len0.ev ρ).toNat * z \/ z = 0 := by
    rcases Nat.eq_zero_or_pos z with h0 | h0
    ·exact .inr h0
    ·refine .inl ?_
     have := Nat.mul_le_mul_right z (show (e.ev ρ).toNat + 1 <= (len.ev ρ).toNat by omega)
     rw [Nat.add_mul] at this; omega
   have hnn : ((e.ev ρ).toNat : Int) = e.ev ρ := Int.toNat_of_nonneg r1
   have hrun : (Instr.indexAt t ((SV.inp k z off len0 len cap).ev ρ β) ((SV.int ki e).ev ρ β)).run P w = .ok (.pointer (some ⟨(β k).1, (β k).2 + ((e.ev ρ).toNat * z + off), none⟩)) w := by
    have h1 : ¬ e.ev ρ < 0 := by omega
    have h2 : ¬ (len.ev ρ).toNat <= (e.ev ρ).toNat := by omega
    simp [Instr.indexAt, run_underlying hu w, SV.ev, asIntOf, Instr.sureAddr, szOf_run hz w, add_lit, hlt, r1, h1, h2, hnn]; rw [if_pos (by omega), Nat.add_assoc, Nat.add_comm off]
   have hbd := hbd.resolve_right (by omega)
   split at h
   ·rename_i m _
    obtain rfl := sinj h; refine ⟨?_, k1, Int.le_refl _, ?_⟩
    ·rw [hrun]
     simp only [SV.ev, E.ev]; have : (Int.ofNat m).toNat = m := rfl; rw [this]; simp
    ·have e0 : (E.ev ρ (.lit (Int.ofNat m))).toNat = m := rfl
     rw [e0] at hbd; simp only [E.ev]
     simpa using hbd
   ·obtain rfl := sinj h
    exact ⟨hrun, k1, r1, hbd⟩
  ·cases h
 ·cases h
theorem sliceI_run {t : TypeId} {k z off : Nat} {len0 len cap : E} {lo hi : Option SV} {r : SV} (hf : FsOk ρ fs) (hk : (SV.inp k z off len0 len cap).ok ρ n) (h : sliceI P fs t k z off len0 len cap lo hi = some r) (w : World) :
  (Instr.sliceAt t ((SV.inp k z off len0 len cap).ev ρ β) (lo.map (SV.ev ρ β)) (hi.map (SV.ev ρ β)) none).run P w = .ok (r.ev ρ β) w /\ r.ok ρ n := by
 unfold sliceI at h; split at h
 ·rename_i et l hE hu hl hh
  split at h
  ·rename_i hc
   obtain ⟨hz, hle, hle2⟩ := hc; obtain ⟨k1, k2, k3, k4, k5⟩ := hk; have e1 := leK_spec hf hle; have e2 := leK_spec hf hle2; have el : E.ev ρ (.lit (Int.ofNat l)) = (l : Int) := rfl; rw [el] at e1; have hb := run_boundsE (P := P) (β := β) (cap := (cap.ev ρ).toNat) hl hh e1 (by omega) w
   have wl := (wf_iff .i64 _).1 k2; have i1 : IntKind.i64.min = -9223372036854775808 := by decide
   have i2 : IntKind.i64.max = 9223372036854775807 := by decide
   rw [i1, i2] at wl; have hmul := Nat.mul_le_mul_right z (show (hE.ev ρ).toNat <= (len.ev ρ).toNat by omega)
   split at h
   ·rename_i h0
    subst h0; obtain rfl := sinj h; refine ⟨?_, k1, (wf_iff .i64 _).2 (by rw [i1, i2]; omega), by simpa using e1, by omega, by omega⟩
    simp [Instr.sliceAt, Instr.slice, run_underlying hu w, SV.ev, hb, szOf_run hz w, add_lit]
   ·split at h
    ·rename_i h0 hlt
     obtain rfl := sinj h; have e3 := ltK_spec hf hlt; rw [el] at e3
     have hsub : (mk .sub .i64 hE (.lit (Int.ofNat l))).ev ρ = hE.ev ρ - l := by
      rw [mk_ev]; show IntKind.i64.wrap (hE.ev ρ - l) = _; rw [IntKind.wrap_i64]; omega
     have hcap : (E.bin .zadd .i64 cap (.lit (-Int.ofNat l))).ev ρ = cap.ev ρ - l := by
      show cap.ev ρ + (-Int.ofNat l) = _; rw [Int.ofNat_eq_natCast]; omega
     have hmz : ((hE.ev ρ - l).toNat) * z + l * z = (hE.ev ρ).toNat * z := by
      rw [<- Nat.add_mul]; congr 1; omega
     refine ⟨?_, k1, ?_, by rw [hsub]; omega, by rw [hsub, hcap]; omega, by rw [hsub]; omega⟩
     ·have n1 : ¬ (cap.ev ρ).toNat = l := by omega
      have q1 : (hE.ev ρ).toNat - l = (hE.ev ρ - l).toNat := by omega
      have q2 : (cap.ev ρ).toNat - l = (cap.ev ρ - l).toNat := by omega
      simp only [SV.ev, hsub, hcap] at hb ⊢; simp only [Instr.sliceAt, Instr.slice, Sem.run_bind, run_underlying hu w, aOk, SV.ev, Option.map_none, hb, szOf_run hz w, Sem.run_pure]; simp only [if_neg n1, add_lit, Option.map_some, q1, q2, Nat.add_assoc]
     ·rw [hsub]
      exact (wf_iff .i64 _).2 (by rw [i1, i2]; omega)
    ·cases h
  ·cases h
 ·cases h
theorem strI_run {hp : Hp} {src dst : TypeId} {k z off : Nat} {len0 len cap : E} {r : SV} (hf : FsOk ρ fs) (hs : Sees ρ β n hp w) (hk : (SV.inp k z off len0 len cap).ok ρ n) (h : strI P hp fs src dst k z off len0 len = some r) :
  (convert src dst ((SV.inp k z off len0 len cap).ev ρ β)).run P w = .ok (r.ev ρ β) w /\ r.ok ρ n := by
 unfold strI at h; split at h
 ·rename_i e rw_ a len0' m hsrc hdst hb hcn
  split at h
  ·rename_i he
   split at h
   ·rename_i hc
    obtain ⟨rfl, hl0⟩ := hc; obtain rfl := E.beq_eq _ _ hl0; obtain rfl := sinj h; have hl := hs.lies k _ hb; simp only [Bx.lies] at hl; obtain ⟨k1, k2, k3, k4, k5⟩ := hk
    have hlen : len.ev ρ = m := by
     have := canon_ev (ρ := ρ) (fs := fs) hf len; rw [hcn] at this; exact this.symm
    have hm : (len.ev ρ).toNat = m := by omega
    have hcell : ∀ j, j < m -> w.cell? ⟨(β k).1, (β k).2 + (off + j), none⟩ = some (.int .u8 (ρ.rd a 4 (Int.ofNat (off + j)))) /\ (Lit.int .u8 (ρ.rd a 4 (Int.ofNat (off + j)))).wf = true := fun j hj => by
     have := hl (off + j) 0 (.int .u8) (by omega) rfl
     simp only [List.length_cons, List.length_nil, Nat.zero_add, Nat.mul_one, Nat.add_zero] at this; exact this
    have hes : ∀ m', E.evs ρ ((List.range m').map fun j => .rd a 4 (.lit (Int.ofNat (off + j)))) = (List.range m').map fun j => ρ.rd a 4 (Int.ofNat (off + j)) := fun m' => by
     have : ∀ l : List Nat, E.evs ρ (l.map fun j => .rd a 4 (.lit (Int.ofNat (off + j)))) = l.map fun j => ρ.rd a 4 (Int.ofNat (off + j)) := fun l => by
      induction l with
      | nil => rfl
      | cons x l ih => simp only [List.map_cons, E.evs, ih]; rfl
     exact this _
    constructor
    ·have hld : (loadCells ⟨(β k).1, (β k).2 + off, none⟩ ((List.range m).map fun j => Value.int .u8 (ρ.rd a 4 (Int.ofNat (off + j)))).length).run P w = .ok ((List.range m).map fun j => Value.int .u8 (ρ.rd a 4 (Int.ofNat (off + j)))).toArray w :=
      run_loadCells_list w _ _ fun j v hv => by
       rw [add_lit]; rw [lMp] at hv
       by_cases hj : j < m
       ·rw [lRa hj] at hv
        obtain rfl := sinj hv; rw [Nat.add_assoc]; exact (hcell j hj).1
       ·rw [lNo (by simpa using hj)] at hv
        cases hv
     rw [List.length_map, List.length_range] at hld; simp only [convert, Sem.run_bind, run_underlying hsrc w, run_underlying hdst w, aOk, SV.ev, run_underlying he w, Conv.bytesToString, hm, hld]; have hmm : (List.range m).map (fun j => Value.int .u8 (ρ.rd a 4 (Int.ofNat (off + j)))) = ((List.range m).map fun j => ρ.rd a 4 (Int.ofNat (off + j))).map (Value.int .u8) := by rw [List.map_map]; rfl
     rw [hmm]; rw [<- Array.forIn_toList, bytes_loop P w _ (fun _ _ => rfl) _ .empty]
     simp only [aOk, Sem.run_pure, bytesV, hes]; congr 3; apply Array.ext'; simp
    ·intro x hx
     rw [hes] at hx; obtain ⟨j, hj, rfl⟩ := List.mem_map.1 hx; have := (wf_iff .u8 _).1 (hcell j (mRa.1 hj)).2; rw [show IntKind.u8.min = 0 by decide, show IntKind.u8.max = 255 by decide] at this
     exact ⟨this.1, by have := this.2; omega⟩
   ·cases h
  ·cases h
 ·cases h
theorem nil_ne {t e : TypeId} (hu : P.underlying t = some (.slice e)) (d : Nat) (p : Addr) (l c l' c' : Nat) (w : World) : (Op.equalIn (d + 1) t (.slice (some p) l c) (.slice none l' c')).run P w = .ok false w := by
 simp [Op.equalIn, run_underlying hu w]
set_option maxHeartbeats 1000000 in
theorem inpS_run {hp : Hp} {g : Operand -> SV} {o : Oper} {r : SV} {a : Act} (hg : ∀ x, (g x).ev ρ β = a.eval x) (hk : ∀ x, (g x).ok ρ n) (hs : Sees ρ β n hp w) (hf : FsOk ρ fs) (h : inpS P fs hp g o = some r) :
  (execOp a.eval o).run P w = .ok (.value (r.ev ρ β)) w /\ r.ok ρ n := by
 unfold inpS at h; split at h
 ·rename_i t x ho
  split at h
  ·rename_i k z len0 i off hx
   have ek := hk x; have ex := hg x; rw [hx] at ek ex; have := loadI_run hs ek h; rw [ex] at this; exact ⟨by simp only [execOp, ho, Sem.run_bind, this.1, aOk, Sem.run_pure], this.2⟩
  ·cases h
 ·rename_i t x i ho
  split at h
  ·rename_i k z off len0 len cap ki e hx hi
   have ek := hk x; have ex := hg x; have ei := hg i; rw [hx] at ek ex; rw [hi] at ei; have := indexI_run (β := β) (ki := ki) hf ek h w; rw [ex, ei] at this; exact ⟨by simp only [execOp, ho, Sem.run_bind, this.1, aOk, Sem.run_pure], this.2⟩
  ·cases h
 ·rename_i t x f ho
  split at h
  ·rename_i k z len0 i off fds hx hu
   have ek := hk x; have ex := hg x; rw [hx] at ek ex; split at h
   ·rename_i fd hfd
    split at h
    ·rename_i m hz
     split at h
     ·rename_i hlt
      obtain rfl := sinj h; obtain ⟨k1, k2, k3⟩ := ek; have hz0 : 0 < z := by omega
      refine ⟨?_, k1, k2, ?_⟩
      ·have hrun : (Instr.fieldAt t (a.eval x) f).run P w = .ok ((SV.iptr k z len0 i (off + fd.offset)).ev ρ β) w := by
        rw [<- ex]; simp [Instr.fieldAt, run_underlying hu w, hfd, SV.ev, Instr.sureAddr, fieldPlace, szOf_run hz w, add_lit, Nat.add_assoc]
       simp only [execOp, ho, Sem.run_bind, hrun, aOk, Sem.run_pure]
      ·have hd := Nat.div_add_mod off z
       have e2 : (i.ev ρ).toNat * z + off = ((i.ev ρ).toNat + off / z) * z + off % z := by rw [Nat.add_mul, Nat.mul_comm (off / z) z]; omega
       rw [e2] at k3; have h1 : (i.ev ρ).toNat + off / z < (len0.ev ρ).toNat := Nat.lt_of_mul_lt_mul_right (a := z) (by omega)
       have h2 := Nat.mul_le_mul_right z (show (i.ev ρ).toNat + off / z + 1 <= (len0.ev ρ).toNat from h1); rw [Nat.add_mul ((i.ev ρ).toNat + off / z)] at h2; omega
     ·cases h
    ·cases h
   ·cases h
  ·cases h
 ·rename_i x ho
  split at h
  ·rename_i k z len0 i off hx
   obtain rfl := sinj h; have ek := hk x; have ex := hg x; rw [hx] at ek ex; exact ⟨by simp only [execOp, ho, <- ex, SV.ev, Sem.run_pure], ek⟩
  ·cases h
 ·rename_i t x lo hi ho
  split at h
  ·rename_i k z off len0 len cap hx
   have ek := hk x; have ex := hg x; rw [hx] at ek ex; have := sliceI_run (β := β) hf ek h w; refine ⟨?_, this.2⟩; have h1 := this.1; rw [ex] at h1; simp only [Option.map_map] at h1; have he : (SV.ev ρ β ∘ g) = a.eval := funext hg; rw [he] at h1; simp only [execOp, ho, Sem.run_bind, Option.map_none, h1, aOk, Sem.run_pure]
  ·cases h
 ·rename_i s d x ho
  split at h
  ·rename_i k z off len0 len cap hx
   have ek := hk x; have ex := hg x; rw [hx] at ek ex; have := strI_run hf hs ek h; rw [ex] at this; exact ⟨by simp only [execOp, ho, Sem.run_bind, this.1, aOk, Sem.run_pure], this.2⟩
  ·cases h
 ·rename_i as ts ho
  split at h
  ·rename_i x t has ht
   split at h
   ·rename_i e k z off len0 len cap hu hx
    obtain rfl := sinj h; have ek := hk x; have ex := hg x; rw [hx] at ek ex; obtain ⟨k1, k2, k3, k4, k5⟩ := ek; refine ⟨?_, k2⟩
    have has' : as = #[x] := by
     apply Array.ext'
     simpa using has
    subst has'; have hnn : ((len.ev ρ).toNat : Int) = len.ev ρ := Int.toNat_of_nonneg k3; simp only [SV.ev] at ex; simp [execOp, ho, resolve, invoke, builtin, Builtin.len_, ht, run_underlying hu w, <- ex, SV.ev, goInt, hnn]
   ·cases h
  ·cases h
 ·rename_i t x y yt ho
  split at h
  ·rename_i e k z off len0 len cap b c hu hx hy
   obtain rfl := sinj h; have ex := hg x; have ey := hg y; rw [hx] at ex; rw [hy] at ey; refine ⟨?_, trivial⟩; have h2 := eqGuardOK_run (P := P) (ρ := ρ) (β := β) (t := t) (x := .inp k z off len0 len cap) (y := .raw (.slice none b c)) rfl .eql x y w; rw [ex, ey] at h2
   have hq : (Op.equalIn Op.maxDepth t ((SV.inp k z off len0 len cap).ev ρ β) ((SV.raw (.slice none b c)).ev ρ β)).run P w = .ok false w := by
    exact nil_ne hu 9999 _ _ _ _ _ w
   simp only [SV.ev] at hq; simp only [execOp, ho, Sem.run_bind, h2, aOk]; rw [<- ex, <- ey]; simp [SV.ev, binOp, Op.equal, hq, E.ev]
  ·cases h
 ·rename_i t x y yt ho
  split at h
  ·rename_i e k z off len0 len cap b c hu hx hy
   obtain rfl := sinj h; have ex := hg x; have ey := hg y; rw [hx] at ex; rw [hy] at ey; refine ⟨?_, trivial⟩; have h2 := eqGuardOK_run (P := P) (ρ := ρ) (β := β) (t := t) (x := .inp k z off len0 len cap) (y := .raw (.slice none b c)) rfl .neq x y w; rw [ex, ey] at h2
   have hq : (Op.equalIn Op.maxDepth t ((SV.inp k z off len0 len cap).ev ρ β) ((SV.raw (.slice none b c)).ev ρ β)).run P w = .ok false w := by
    exact nil_ne hu 9999 _ _ _ _ _ w
   simp only [SV.ev] at hq; simp only [execOp, ho, Sem.run_bind, h2, aOk]; rw [<- ex, <- ey]; simp [SV.ev, binOp, Op.equal, hq, E.ev]
  ·cases h
 ·cases h
theorem concN_holds {α : Type} {e : E} {f : Int -> List (E × Bool) -> T α} {Q : α -> Prop} : ∀ (k : Nat) (m : Int) (fs : List (E × Bool)), FsOk ρ fs -> m <= e.ev ρ -> e.ev ρ <= m + k -> (concN e f k m fs).holds ρ Q -> ∃ fs', FsOk ρ fs' /\ (f (e.ev ρ) fs').holds ρ Q
 | 0, m, fs, hf, h1, h2, h => ⟨fs, hf, by
  have : e.ev ρ = m := by omega
  rw [this]; exact h⟩
 | k + 1, m, fs, hf, h1, h2, h => by
  unfold concN at h; obtain ⟨fs', hf', h'⟩ := split_holds hf h; simp only [E.ev, BOp.ev] at h'; rcases h' with ⟨h3, h4⟩ | ⟨h3, h4⟩
  ·have : e.ev ρ = m := by
    by_cases hx : e.ev ρ = m
    ·exact hx
    ·simp [hx] at h3
   exact ⟨fs', hf', by rw [this]; exact h4⟩
  ·have : e.ev ρ ≠ m := fun hx => by simp [hx] at h3
   exact concN_holds k (m + 1) fs' hf' (by omega) (by omega) h4
theorem concT_holds {α : Type} {e : E} {f : Int -> List (E × Bool) -> T α} {Q : α -> Prop} (hf : FsOk ρ fs) (h : (concT fs e f).holds ρ Q) : ∃ fs', FsOk ρ fs' /\ (f (e.ev ρ) fs').holds ρ Q := by
 have ha := (ana_ok hf e).2; unfold concT at h; split at h
 ·rename_i lo hi hlo hhi
  split at h
  ·have h1 := ha.1 lo hlo
   have h2 := ha.2 hi hhi; exact concN_holds _ _ _ hf h1 (by omega) h
  ·exact h.elim
 ·exact h.elim
theorem pureS'_run {hp : Hp} {g : Operand -> SV} {o : Oper} {r : SV} {a : Act} (hg : ∀ x, (g x).ev ρ β = a.eval x) (hk : ∀ x, (g x).ok ρ n) (hs : Sees ρ β n hp w) (hf : FsOk ρ fs) (h : pureS' P fs hp g o = some r) :
  (execOp a.eval o).run P w = .ok (.value (r.ev ρ β)) w /\ r.ok ρ n := by
 unfold pureS' at h; split at h
 ·rename_i r' hr
  obtain rfl := sinj h; obtain ⟨q1, q2⟩ := pureS_run hg hk hs hr; obtain ⟨s1, s2⟩ := simpB_spec hf r' β n; rw [s1]; exact ⟨q1, s2 q2⟩
 ·exact inpS_run hg hk hs hf h
end
end SX
namespace SX
open Go Go.RowKit
section
variable {P : Program} {ρ : Env} {w0 : World} {M : Nat -> Prop} {β : Bm} {w w' : World} {hp : Hp}
theorem Bx.lies_ext {n : Nat} {β β' : Bm} (hx : Ext n β β') {bv : Nat × Nat} {w : World} : ∀ {b : Bx}, b.ok ρ n -> b.lies ρ β bv w -> b.lies ρ β' bv w
 | .cells c ty 0, hk, h => by simp only [Bx.lies] at *; rw [SV.evs_ext hx c hk]; exact h
 | .cells c ty (s + 1), hk, h => by simp only [Bx.lies] at *; rw [SV.evs_ext hx c hk]; exact h
 | .map es clock, hk, h => by
  simp only [Bx.lies] at *; rw [h]; congr 3
  exact List.map_congr_left fun e he => by
   have := hk e he; simp only [entOf, SV.ev_ext hx _ this.1, SV.ev_ext hx _ this.2]
 | .ro c _, hk, h => by simp only [Bx.lies] at *; rw [SV.evs_ext hx c hk]; exact h
 | .arr _ _ _, _, h => h
 | .gone, _, h => h
 | .obj _ _, _, h => h
 | .view o l, hk, h => by simp only [Bx.lies] at *; rw [hx o hk]; exact h
theorem Bx.lies_block {b : Bx} {bv : Nat × Nat} {w w' : World} (h : w'.heap[bv.1]? = w.heap[bv.1]?) (hl : b.lies ρ β bv w) : b.lies ρ β bv w' := by
 have hcell : ∀ i, w'.cell? ⟨bv.1, i, none⟩ = w.cell? ⟨bv.1, i, none⟩ := fun i => by unfold World.cell?; simp only [h]
 unfold Bx.lies at *; split <;> first | (simp only at hl ⊢; rw [h]; exact hl) | (exact ⟨fun i v hv => by rw [hcell]; exact hl.1 i v hv, hl.2⟩) | exact hl | (intro i f l hi hf; rw [hcell]; exact hl i f l hi hf) | trivial
theorem Bx.lies_lt {b : Bx} {bv : Nat × Nat} {w : World} (hl : b.lies ρ β bv w) (hv : b.live = true) : bv.1 < w.heap.size := by
 cases b with
 | cells c ty tail => obtain ⟨rest, h⟩ := Bx.lies_cells hl; exact (Array.getElem?_eq_some_iff.1 h).1
 | map es clock => exact (Array.getElem?_eq_some_iff.1 hl).1
 | ro c m =>
  cases c with
  | nil => cases hv
  | cons s c => exact block_lt_of_cell (hl.1 0 _ rfl)
 | arr a ks len0 => cases hv
 | gone => cases hv
 | obj q es => cases hv
 | view o l => cases hv
theorem Bx.not_live {b : Bx} {bv : Nat × Nat} {w w' : World} (h : b.live = false) (ha : b.isArr = false) (hl : b.lies ρ β bv w') : b.lies ρ β bv w := by
 cases b with
 | cells c ty tail => cases h
 | map es clock => cases h
 | ro c m =>
  cases c with
  | nil => exact ⟨fun i v hv => by simp [SV.evs] at hv, fun h => by cases h⟩
  | cons s c => cases h
 | arr a ks len0 => cases ha
 | gone => trivial
 | obj q es => trivial
 | view o l => exact hl
theorem Bx.ok_mono {n m : Nat} (hnm : n <= m) : ∀ {b : Bx}, b.ok ρ n -> b.ok ρ m
 | .cells c _ _, h => SV.oks_mono hnm c h
 | .map es _, h => fun e he => ⟨SV.ok_mono hnm _ (h e he).1, SV.ok_mono hnm _ (h e he).2⟩
 | .ro c _, h => SV.oks_mono hnm c h
 | .arr _ _ _, _ => trivial
 | .gone, _ => trivial
 | .obj _ _, _ => trivial
 | .view o _, h => Nat.lt_of_lt_of_le h hnm
theorem Kept.refl (w : World) (M : Nat -> Prop) : Kept w M w := ⟨rfl, rfl, rfl, Nat.le_refl _, fun _ _ _ => rfl⟩
theorem Kept.below (h : Kept w0 M w) (hb : Below w.heap.size w w') : Kept w0 M w' :=
 ⟨hb.os.trans h.os, hb.tape.trans h.tape, hb.output.trans h.output, Nat.le_trans h.size hb.size, fun i hi hm => (hb.block i (Nat.lt_of_lt_of_le hi h.size)).trans (h.block i hi hm)⟩
theorem Heap.below (h : Heap ρ w0 M β hp w) (hb : Below w.heap.size w w') : Heap ρ w0 M β hp w' := by
 refine ⟨fun k b hk => ?_, h.inj, h.mine, h.good, h.kept.below hb, h.arrs, h.objs.imp fun φ ho => ho.to (fun k b hk _ => ⟨b, hk, rfl, rfl⟩) (fun k b hk hv => .inl ⟨k, b, hk, hv, rfl⟩) (fun k b i hk hv hi => hb.block i (ho.lt hk hv hi))⟩
 have hl := h.lies k b hk; cases hv : b.c.live with
 | false =>
  cases ha : b.c.isArr with
  | false => exact Bx.not_live hv ha hl
  | true => exact Bx.lies_block (hb.block _ (Nat.lt_of_lt_of_le (h.arrs k b hk ha).1 h.kept.size)) hl
 | true => exact Bx.lies_block (hb.block _ (Bx.lies_lt hl hv)) hl
def upd (β : Bm) (n : Nat) (v : Nat × Nat) : Bm := fun b => if b = n then v else β b
theorem upd_same (β : Bm) (n : Nat) (v : Nat × Nat) : upd β n v n = v := if_pos rfl
theorem upd_ext (β : Bm) (n : Nat) (v : Nat × Nat) : Ext n β (upd β n v) := fun b hb => if_neg (Nat.ne_of_lt hb)
theorem Heap.objs_push {bv : Nat × Nat} {r : Bool} {b : Bx} (h : Heap ρ w0 M β hp w) (hn : (∃ k0 b0, hp.at k0 = some b0 /\ b0.c.live = true /\ bv.1 = (β k0).1) \/ w.heap.size <= bv.1 \/ b.live = false)
  (hw : ∀ φ, ObjsOk ρ w0 M β hp φ w -> ∀ (k : Nat) (b : Box) (i : Nat), hp.at k = some b -> b.c.isObj = true -> φ k i -> w'.heap[i]? = w.heap[i]?) {hp' : Hp} (hp'n : hp'.n = hp.n) (hsub : ∀ (k : Nat) (x : Box), hp'.at k = some x -> x.c.live = true \/ x.c.isObj = true -> hp.at k = some x) (hb : b.isObj = false := by rfl) :
  ∃ φ, ObjsOk ρ w0 M (upd β hp.n bv) (hp'.push ⟨r, b⟩) φ w' := by
 obtain ⟨φ, ho⟩ := h.objs
 have cases_ : ∀ (k : Nat) (x : Box), (hp'.push ⟨r, b⟩).at k = some x -> (x.c.live = true \/ x.c.isObj = true -> hp.at k = some x /\ upd β hp.n bv k = β k) \/ (k = hp.n /\ x = ⟨r, b⟩) := fun k x hk => by
  have hlt' := Hp.at_lt hk; simp only [Hp.n_push] at hlt'
  by_cases hlt : k < hp'.n
  ·rw [Hp.at_push_lt _ hlt] at hk
   exact .inl fun hx => ⟨hsub k x hk hx, upd_ext β hp.n bv k (by omega)⟩
  ·obtain rfl : k = hp'.n := by omega
   rw [Hp.at_push_n] at hk; exact .inr ⟨hp'n, (sinj hk).symm⟩
 refine ⟨φ, ho.to (fun k x hk hx => ?_) (fun k x hk hx => ?_) (hw φ ho)⟩
 ·rcases cases_ k x hk with h1 | ⟨rfl, rfl⟩
  ·exact ⟨x, (h1 (.inr hx)).1, rfl, (h1 (.inr hx)).2⟩
  ·simp only at hx; rw [hb] at hx; cases hx
 ·rcases cases_ k x hk with h1 | ⟨rfl, rfl⟩
  ·exact .inl ⟨k, x, (h1 (.inl hx)).1, hx, by rw [(h1 (.inl hx)).2]⟩
  ·rw [upd_same]
   rcases hn with h2 | h2 | h2
   ·exact .inl h2
   ·exact .inr h2
   ·simp only at hx; rw [h2] at hx; cases hx
theorem Heap.objs_new {bv : Nat × Nat} {r : Bool} {b : Bx} (h : Heap ρ w0 M β hp w) (hbl : Below w.heap.size w w') (hn : w.heap.size <= bv.1) (hb : b.isObj = false := by rfl) : ∃ φ, ObjsOk ρ w0 M (upd β hp.n bv) (hp.push ⟨r, b⟩) φ w' :=
 h.objs_push (.inr (.inl hn)) (fun φ ho k b i hk hv hi => hbl.block i (ho.lt hk hv hi)) rfl (fun k x hk _ => hk) hb
theorem Heap.push {bv : Nat × Nat} {b : Bx} (h : Heap ρ w0 M β hp w) (hnew : ∀ j b', hp.at j = some b' -> b'.c.live = true -> (β j).1 ≠ bv.1) (hsz : M bv.1 \/ w0.heap.size <= bv.1) (hok : b.ok ρ (hp.n + 1))
  (hl : b.lies ρ (upd β hp.n bv) bv w) (hobj : ∃ φ, ObjsOk ρ w0 M (upd β hp.n bv) (hp.push ⟨true, b⟩) φ w) (ha : b.isArr = false := by rfl) : Heap ρ w0 M (upd β hp.n bv) (hp.push ⟨true, b⟩) w := by
 have hx := upd_ext β hp.n bv
 have cases_ : ∀ (k : Nat) (x : Box), (hp.push ⟨true, b⟩).at k = some x -> (k < hp.n /\ hp.at k = some x /\ upd β hp.n bv k = β k) \/ (k = hp.n /\ x = ⟨true, b⟩) := fun k x hk => by
  have hlt' := Hp.at_lt hk; simp only [Hp.n_push] at hlt'
  by_cases hlt : k < hp.n
  ·rw [Hp.at_push_lt _ hlt] at hk
   exact .inl ⟨hlt, hk, hx k hlt⟩
  ·obtain rfl : k = hp.n := by omega
   rw [Hp.at_push_n] at hk; exact .inr ⟨rfl, (sinj hk).symm⟩
 refine ⟨fun k x hk => ?_, fun j k x y hj hk hlx hly he => ?_, fun k x hk hr hlx => ?_, fun k x hk => ?_, h.kept, fun k x hk hax => ?_, hobj⟩
 ·rcases cases_ k x hk with ⟨hlt, hk', e⟩ | ⟨rfl, rfl⟩
  ·rw [e]; exact Bx.lies_ext hx (h.good k x hk') (h.lies k x hk')
  ·rw [upd_same]; exact hl
 ·rcases cases_ j x hj with ⟨hlt, hj', e⟩ | ⟨rfl, rfl⟩ <;> rcases cases_ k y hk with ⟨hlt', hk', e'⟩ | ⟨rfl, rfl⟩
  ·rw [e, e'] at he; exact h.inj j k x y hj' hk' hlx hly he
  ·rw [e, upd_same] at he; exact absurd he (hnew j x hj' hlx)
  ·rw [e', upd_same] at he; exact absurd he.symm (hnew k y hk' hly)
  ·rfl
 ·rcases cases_ k x hk with ⟨hlt, hk', e⟩ | ⟨rfl, rfl⟩
  ·rw [e]; exact h.mine k x hk' hr hlx
  ·rw [upd_same]; exact hsz
 ·simp only [Hp.n_push]
  rcases cases_ k x hk with ⟨hlt, hk', e⟩ | ⟨rfl, rfl⟩
  ·exact Bx.ok_mono (by omega) (h.good k x hk')
  ·exact hok
 ·rcases cases_ k x hk with ⟨hlt, hk', e⟩ | ⟨rfl, rfl⟩
  ·rw [e]; exact h.arrs k x hk' hax
  ·simp only at hax; rw [ha] at hax; cases hax
theorem Heap.alloc {c : Nat} {b : Bx} {o : Obj} (h : Heap ρ w0 M β hp w) (hok : b.ok ρ (hp.n + 1)) (hl : b.lies ρ (upd β hp.n (w.heap.size, c)) (w.heap.size, c) (w.alloc o)) (ha : b.isArr = false := by rfl) (hao : b.isObj = false := by rfl) :
  Heap ρ w0 M (upd β hp.n (w.heap.size, c)) (hp.push ⟨true, b⟩) (w.alloc o) :=
 (h.below ((Below.refl _ _).alloc (Nat.le_refl _) _)).push (fun j b' hj hv e => by
  have := Bx.lies_lt (h.lies j b' hj) hv; simp only at e; omega) (.inr h.kept.size) hok hl (h.objs_new ((Below.refl _ _).alloc (Nat.le_refl _) _) (Nat.le_refl _) (by rw [hao])) ha
theorem Heap.write {k : Nat} {b : Box} {c : Bx} (h : Heap ρ w0 M β hp w) (hk : hp.at k = some b) (hr : b.rw = true) (hv : b.c.live = true) (hok : c.ok ρ hp.n) (hl : c.lies ρ β (β k) w')
  (hother : ∀ i, i ≠ (β k).1 -> w'.heap[i]? = w.heap[i]?) (hsz : w'.heap.size = w.heap.size) (hos : w'.os = w.os) (htp : w'.tape = w.tape) (hou : w'.output = w.output) (ha : c.isArr = false := by rfl) (hao : c.isObj = false := by rfl) :
  Heap ρ w0 M β (hp.put k ⟨b.rw, c⟩) w' := by
 have hlt := Hp.at_lt hk
 have cases_ : ∀ (j : Nat) (x : Box), (hp.put k ⟨b.rw, c⟩).at j = some x -> (j ≠ k /\ hp.at j = some x) \/ (j = k /\ x = ⟨b.rw, c⟩) := fun j x hj => by
  by_cases he : j = k
  ·subst he; rw [Hp.at_put_same _ hlt] at hj; exact .inr ⟨rfl, (sinj hj).symm⟩
  ·rw [Hp.at_put_ne _ he] at hj; exact .inl ⟨he, hj⟩
 refine ⟨fun j x hj => ?_, fun i j x y hi hj hx hy e => ?_, fun j x hj hrw hx => ?_, fun j x hj => ?_, ?_, fun j x hj hax => ?_, h.objs.imp fun φ ho => ho.to (fun j x hj hx => ?_) (fun j x hj hx => ?_) (fun j x i hj hx hi => hother i fun e => (ho.apart j k x b hj hk hx (fun e => ?_) i hi).1 hv e.symm)⟩
 ·rcases cases_ j x hj with ⟨hne, hj'⟩ | ⟨rfl, rfl⟩
  ·cases hx : x.c.live with
   | false =>
    cases hax : x.c.isArr with
    | false => exact Bx.not_live hx hax (h.lies j x hj')
    | true =>
     obtain ⟨a1, a2⟩ := h.arrs j x hj' hax; refine Bx.lies_block (hother _ fun e => ?_) (h.lies j x hj')
     rcases h.mine k b hk hr hv with h1 | h1
     ·exact a2 (e ▸ h1)
     ·omega
   | true => exact Bx.lies_block (hother _ fun e => hne (h.inj j k x b hj' hk hx hv e)) (h.lies j x hj')
  ·exact hl
 ·rcases cases_ i x hi with ⟨hne, hi'⟩ | ⟨rfl, rfl⟩ <;> rcases cases_ j y hj with ⟨hne', hj'⟩ | ⟨rfl, rfl⟩
  ·exact h.inj i j x y hi' hj' hx hy e
  ·exact h.inj i j x b hi' hk hx hv e
  ·exact h.inj i j b y hk hj' hv hy e
  ·rfl
 ·rcases cases_ j x hj with ⟨hne, hj'⟩ | ⟨rfl, rfl⟩
  ·exact h.mine j x hj' hrw hx
  ·exact h.mine j b hk hr hv
 ·simp only [Hp.n_put]
  rcases cases_ j x hj with ⟨hne, hj'⟩ | ⟨rfl, rfl⟩
  ·exact h.good j x hj'
  ·exact hok
 ·refine ⟨hos.trans h.kept.os, htp.trans h.kept.tape, hou.trans h.kept.output, by rw [hsz]; exact h.kept.size, fun i hi hm => ?_⟩
  rcases h.mine k b hk hr hv with h1 | h1
  ·rw [hother i fun e => hm (e ▸ h1)]; exact h.kept.block i hi hm
  ·rw [hother i (by omega)]; exact h.kept.block i hi hm
 ·rcases cases_ j x hj with ⟨hne, hj'⟩ | ⟨rfl, rfl⟩
  ·exact h.arrs j x hj' hax
  ·simp only at hax; rw [ha] at hax; cases hax
 ·rcases cases_ j x hj with ⟨hne, hj'⟩ | ⟨rfl, rfl⟩
  ·exact ⟨x, hj', rfl, rfl⟩
  ·simp only at hx; rw [hao] at hx; cases hx
 ·rcases cases_ j x hj with ⟨hne, hj'⟩ | ⟨rfl, rfl⟩
  ·exact .inl ⟨j, x, hj', hx, rfl⟩
  ·exact .inl ⟨j, b, hk, hv, rfl⟩
 ·subst e
  rw [hk] at hj; obtain rfl := sinj hj; rw [Bx.obj_dead hx] at hv; cases hv
theorem Heap.forget (h : Heap ρ w0 M β hp w) (k : Nat) : Heap ρ w0 M β (hp.put k ⟨false, .gone⟩) w := by
 have cases_ : ∀ (j : Nat) (x : Box), (hp.put k ⟨false, .gone⟩).at j = some x -> hp.at j = some x /\ j ≠ k \/ x = ⟨false, .gone⟩ := fun j x hj => by
  by_cases he : j = k
  ·subst he
   have hlt : j < hp.n := by have := Hp.at_lt hj; simpa using this
   rw [Hp.at_put_same _ hlt] at hj; exact .inr (sinj hj).symm
  ·rw [Hp.at_put_ne _ he] at hj; exact .inl ⟨hj, he⟩
 refine ⟨fun j x hj => ?_, fun i j x y hi hj hx hy e => ?_, fun j x hj hrw hx => ?_, fun j x hj => ?_, h.kept, fun j x hj hax => ?_, h.objs.imp fun φ ho => ho.to (fun j x hj hx => ?_) (fun j x hj hx => ?_) (fun _ _ _ _ _ _ => rfl)⟩
 ·rcases cases_ j x hj with ⟨h', _⟩ | rfl
  ·exact h.lies j x h'
  ·trivial
 ·rcases cases_ i x hi with ⟨hi', _⟩ | rfl
  ·rcases cases_ j y hj with ⟨hj', _⟩ | rfl
   ·exact h.inj i j x y hi' hj' hx hy e
   ·cases hy
  ·cases hx
 ·rcases cases_ j x hj with ⟨h', _⟩ | rfl
  ·exact h.mine j x h' hrw hx
  ·cases hx
 ·simp only [Hp.n_put]
  rcases cases_ j x hj with ⟨h', _⟩ | rfl
  ·exact h.good j x h'
  ·trivial
 ·rcases cases_ j x hj with ⟨h', _⟩ | rfl
  ·exact h.arrs j x h' hax
  ·cases hax
 ·rcases cases_ j x hj with ⟨h', _⟩ | rfl
  ·exact ⟨x, h', rfl, rfl⟩
  ·cases hx
 ·rcases cases_ j x hj with ⟨h', _⟩ | rfl
  ·exact .inl ⟨j, x, h', hx, rfl⟩
  ·cases hx
theorem Heap.sees (h : Heap ρ w0 M β hp w) : Sees ρ β hp.n hp w := ⟨h.lies, h.good⟩
theorem run_store_mid (g : Nat) (t : TypeId) : ∀ (vs : List Value) (off i : Nat) (cur : List Value) (w : World), w.heap[g]? = some (.cells cur.toArray t (0, 0)) -> off + i + vs.length <= cur.length -> (∀ v ∈ vs, v.oneCell' = true) ->
  ∃ w', (storeCells ⟨g, off, none⟩ vs i).run P w = .ok () w' /\ w'.heap[g]? = some (.cells (spliceV cur vs (off + i)).toArray t (0, 0)) /\ (∀ j, j ≠ g -> w'.heap[j]? = w.heap[j]?) /\ w'.heap.size = w.heap.size /\ w'.os = w.os /\ w'.tape = w.tape /\ w'.output = w.output
 | [], off, i, cur, w, hg, hl, _ => ⟨w, rfl, by simpa [spliceV] using hg, fun _ _ => rfl, rfl, rfl, rfl, rfl⟩
 | v :: vs, off, i, cur, w, hg, hl, h1 => by
  have hi : off + i < cur.length := by simp at hl; omega
  have hcell : w.cell? ⟨g, off + i, none⟩ = some cur[off + i] := by simp [World.cell?, hg, hi]
  have hfro : w.frozen? ⟨g, off + i, none⟩ = false := by simp [World.frozen?, hg]
  have hst : (store ((⟨g, off, none⟩ : Addr).add i) v).run P w = .ok () (w.setCell ⟨g, off + i, none⟩ v) := by
   rw [add_lit, run_store P w _ v _ (h1 v (by simp)), hcell]
   simp [hfro]
  have hg' : (w.setCell ⟨g, off + i, none⟩ v).heap[g]? = some (.cells (cur.set (off + i) v).toArray t (0, 0)) := by
   rw [heap_setCell_same w g (off + i) _ t v hg]; simp
  obtain ⟨w', r1, r2, r3, r4, r5, r6, r7⟩ := run_store_mid g t vs off (i + 1) (cur.set (off + i) v) _ hg' (by simp at hl ⊢; omega) (fun x hx => h1 x (by simp [hx]))
  refine ⟨w', ?_, ?_, fun j hj => (r3 j hj).trans (heap_setCell_other w _ j v hj), by rw [r4]; simp, r5, r6, r7⟩
  ·simp only [storeCells, Sem.run_bind, hst, aOk, r1]
  ·rw [spliceV_cons _ _ _ _ hl]; exact r2
theorem spliceV_append (l m rest : List Value) (off : Nat) (h : off + m.length <= l.length) : spliceV (l ++ rest) m off = spliceV l m off ++ rest := by
 unfold spliceV; rw [List.take_append_of_le_length (by omega), List.drop_append_of_le_length (by omega)]
 simp
theorem Heap.store {k off : Nat} {rw_ : Bool} {c cs : List SV} {ty : TypeId} {tail : Nat} (h : Heap ρ w0 M β hp w) (hk : hp.at k = some ⟨rw_, .cells c ty tail⟩) (hr : rw_ = true) (hle : off + cs.length <= c.length)
  (hone : ∀ s ∈ cs, s.one = true) (hok : SV.oks ρ hp.n cs) :
  ∃ w', (storeCells ⟨(β k).1, off, none⟩ (SV.evs ρ β cs)).run P w = .ok () w' /\ Heap ρ w0 M β (hp.put k ⟨true, .cells (splice c cs off) ty tail⟩) w' := by
 subst hr; have hl := h.lies _ _ hk; have hgood : SV.oks ρ hp.n c := h.good _ _ hk; obtain ⟨rest, hg⟩ := Bx.lies_cells hl
 have hones : ∀ v ∈ SV.evs ρ β cs, v.oneCell' = true := fun v hv => by
  rw [SV.evs_map] at hv; obtain ⟨s, hs, rfl⟩ := List.mem_map.1 hv; exact SV.one_ev ρ β (hone s hs)
 have hlen : (SV.evs ρ β cs).length = cs.length := by rw [SV.evs_map]; simp
 have hlc : (SV.evs ρ β c).length = c.length := by rw [SV.evs_map]; simp
 obtain ⟨w', r1, r2, r3, r4, r5, r6, r7⟩ := run_store_mid (P := P) (β k).1 ty (SV.evs ρ β cs) off 0 _ w hg (by simp [hlen, hlc]; omega) hones
 refine ⟨w', r1, ?_⟩; refine h.write hk rfl rfl (oks_splice hgood hok off) ?_ r3 r4 r5 r6 r7; simp only [Nat.add_zero] at r2; rw [spliceV_append _ _ _ _ (by rw [hlen, hlc]; exact hle), <- evs_splice] at r2
 cases tail with
 | zero =>
  simp only [Bx.lies] at hl ⊢; rw [hl] at hg; have : rest = [] := by simpa using hg
  subst this
  simpa using r2
 | succ s =>
  obtain ⟨rest', h1, h2⟩ := hl; rw [h1] at hg; have : rest' = rest := by simpa using hg
  subst this; exact ⟨rest', r2, by rw [length_splice hle]; exact h2⟩
end
end SX
end Go.Proofs.YtfcpmapfhgibpaaGreatDoor
