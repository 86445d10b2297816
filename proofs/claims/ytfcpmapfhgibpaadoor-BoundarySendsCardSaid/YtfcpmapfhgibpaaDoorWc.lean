/- The executor: states, operations. -/
import Derived.Test.YtfcpmapfhgibpaaDoorWb
import Derived.Laws.StructEq
import Derived.Laws.Slices
import Derived.Deep.QuietTactic
import Derived.Laws.Tables
import Derived.Laws.Append
import Derived.Laws.MakeOwn
import Derived.OrdersHeld
namespace Go.Proofs.YtfcpmapfhgibpaaDoor.SX
open Go
set_option linter.unusedVariables false
structure St where
  sz : Nat
  tmps : Nat → SV
  hp : Hp
  facts : List (E × Bool)

/-- What may not change since the world w0, but for the blocks of M. -/
structure Kept (w0 : World) (M : Nat → Prop) (w : World) : Prop where
  os : w.os = w0.os
  tape : w.tape = w0.tape
  output : w.output = w0.output
  size : w0.heap.size ≤ w.heap.size
  block : ∀ i, i < w0.heap.size → ¬ M i → w.heap[i]? = w0.heap[i]?

/-- Objects with their blocks (φ): they lie there, may be changed, and lie apart from all else. -/
structure ObjsOk (ρ : Env) (w0 : World) (M : Nat → Prop) (β : Bm) (hp : Hp) (φ : Nat → Nat → Prop) (w : World) : Prop where
  has : ∀ (k : Nat) (b : Box) (q : Nat) (es : List E), hp.at k = some b → b.c = .obj q es → Ob q (E.evs ρ es) (β k).1 (φ k) w
  own : ∀ (k : Nat) (b : Box), hp.at k = some b → b.c.isObj = true → ∀ i, φ k i → M i ∨ w0.heap.size ≤ i
  apart : ∀ (j k : Nat) (b b' : Box), hp.at j = some b → hp.at k = some b' → b.c.isObj = true → j ≠ k → ∀ i, φ j i → (b'.c.live = true → (β k).1 ≠ i) ∧ (b'.c.isObj = true → ¬ φ k i)
structure Heap (ρ : Env) (w0 : World) (M : Nat → Prop) (β : Bm) (hp : Hp) (w : World) : Prop where
  lies : ∀ (k : Nat) (b : Box), hp.at k = some b → b.c.lies ρ β (β k) w
  inj : ∀ (j k : Nat) (b b' : Box), hp.at j = some b → hp.at k = some b' → b.c.live = true → b'.c.live = true → (β j).1 = (β k).1 → j = k
  mine : ∀ (k : Nat) (b : Box), hp.at k = some b → b.rw = true → b.c.live = true → M (β k).1 ∨ w0.heap.size ≤ (β k).1
  good : ∀ (k : Nat) (b : Box), hp.at k = some b → b.c.ok ρ hp.n
  kept : Kept w0 M w
  arrs : ∀ (k : Nat) (b : Box), hp.at k = some b → b.c.isArr = true → (β k).1 < w0.heap.size ∧ ¬ M (β k).1
  objs : ∃ φ, ObjsOk ρ w0 M β hp φ w

theorem Bx.obj_of {c : Bx} (h : c.isObj = true) : ∃ q es, c = .obj q es := by
  cases c <;> first | exact ⟨_, _, rfl⟩ | cases h
theorem Bx.obj_dead {c : Bx} (h : c.isObj = true) : c.live = false := by
  cases c <;> first | rfl | cases h
theorem ObjsOk.lt {ρ : Env} {w0 w : World} {M : Nat → Prop} {β : Bm} {hp : Hp} {φ : Nat → Nat → Prop} (h : ObjsOk ρ w0 M β hp φ w) {k : Nat} {b : Box} (hk : hp.at k = some b) (hb : b.c.isObj = true) {i : Nat} (hi : φ k i) : i < w.heap.size := by
  obtain ⟨q, es, e⟩ := Bx.obj_of hb
  exact Ob_lt (h.has k b q es hk e) i hi
/-- The same objects, in another heap and world. -/
theorem ObjsOk.to {ρ : Env} {w0 w w' : World} {M : Nat → Prop} {β β' : Bm} {hp hp' : Hp} {φ : Nat → Nat → Prop} (h : ObjsOk ρ w0 M β hp φ w)
    (ho : ∀ (k : Nat) (b : Box), hp'.at k = some b → b.c.isObj = true → ∃ b0, hp.at k = some b0 ∧ b0.c = b.c ∧ β' k = β k)
    (hl : ∀ (k : Nat) (b : Box), hp'.at k = some b → b.c.live = true → (∃ k0 b0, hp.at k0 = some b0 ∧ b0.c.live = true ∧ (β' k).1 = (β k0).1) ∨ w.heap.size ≤ (β' k).1)
    (hw : ∀ (k : Nat) (b : Box) (i : Nat), hp.at k = some b → b.c.isObj = true → φ k i → w'.heap[i]? = w.heap[i]?) : ObjsOk ρ w0 M β' hp' φ w' := by
  refine ⟨fun k b q es hk e => ?_, fun k b hk hb i hi => ?_, fun j k b b' hj hk hb hjk i hi => ⟨fun hv he => ?_, fun hb' hi' => ?_⟩⟩
  · obtain ⟨b0, h0, e0, eb⟩ := ho k b hk (by rw [e]; rfl)
    rw [eb]
    exact Ob_keep (h.has k b0 q es h0 (e0.trans e)) fun i hi => hw k b0 i h0 (by rw [e0, e]; rfl) hi
  · obtain ⟨b0, h0, e0, eb⟩ := ho k b hk hb
    exact h.own k b0 h0 (by rw [e0]; exact hb) i hi
  · obtain ⟨b0, h0, e0, eb⟩ := ho j b hj hb
    have hob : b0.c.isObj = true := by rw [e0]; exact hb
    rcases hl k b' hk hv with ⟨k0, b1, h1, h2, h3⟩ | h1
    · refine (h.apart j k0 b0 b1 h0 h1 hob (fun e => ?_) i hi).1 h2 (h3.symm.trans he)
      subst e
      rw [h0] at h1
      obtain rfl := Option.some.inj h1
      rw [Bx.obj_dead hob] at h2
      cases h2
    · have := h.lt h0 hob hi
      omega
  · obtain ⟨b0, h0, e0, eb⟩ := ho j b hj hb
    obtain ⟨b1, h1, e1, eb1⟩ := ho k b' hk hb'
    exact (h.apart j k b0 b1 h0 h1 (by rw [e0]; exact hb) hjk i hi).2 (by rw [e1]; exact hb') hi'
theorem ObjsOk.none {ρ : Env} {w0 w : World} {M : Nat → Prop} {β : Bm} {hp : Hp} (h : ∀ (k : Nat) (b : Box), hp.at k = some b → b.c.isObj = false) : ∃ φ, ObjsOk ρ w0 M β hp φ w :=
  ⟨fun _ _ => False, ⟨fun k b q es hk e => (by have := h k b hk; rw [e] at this; cases this), fun _ _ _ _ _ hi => hi.elim, fun _ _ _ _ _ _ _ _ _ hi => hi.elim⟩⟩

/-- The known cells of variables of the program: global g is box k. -/
abbrev Gl := List (Nat × Nat)

structure Conc (ρ : Env) (w0 : World) (M : Nat → Prop) (gl : Gl) (β : Bm) (st : St) (a : Act) (w : World) : Prop where
  size : a.tmps.size = st.sz
  tmps : ∀ i, i < st.sz → a.tmps[i]? = some ((st.tmps i).ev ρ β)
  defers : a.defers = []
  good : ∀ i, i < st.sz → (st.tmps i).ok ρ st.hp.n
  heap : Heap ρ w0 M β st.hp w
  facts : ∀ p ∈ st.facts, (p.1.ev ρ ≠ 0 ↔ p.2 = true)
  gl : ∀ p ∈ gl, (β p.2).1 = p.1 ∧ p.2 < st.hp.n

def undefS : SV := .raw undef
def glookup : Gl → Nat → SV
  | [], g => .raw (.pointer (some ⟨g, 0, none⟩))
  | (h, k) :: l, g => if h = g then .ptr k 0 else glookup l g
def St.tmp? (st : St) (t : Nat) : Option SV := bif Nat.blt t st.sz then some (st.tmps t) else none
def St.get (gl : Gl) (st : St) : Operand → SV
  | .tmp t => bif Nat.blt t st.sz then st.tmps t else undefS
  | .const v => ofValue v
  | .global g => glookup gl g
  | .func f => .func f [] []
def St.put (st : St) (dst : Option Tmp) (s : SV) : St :=
  match dst with
  | some d => { st with tmps := fun i => bif Nat.beq i d then s else st.tmps i }
  | none => st

section
variable {ρ : Env} {w0 : World} {M : Nat → Prop} {gl : Gl} {β : Bm} {st : St} {a : Act} {w : World}

theorem glookup_spec {n : Nat} (hg : ∀ p ∈ gl, (β p.2).1 = p.1 ∧ p.2 < n) (g : Nat) : (glookup gl g).ev ρ β = .pointer (some ⟨g, 0, none⟩) ∧ (glookup gl g).ok ρ n := by
  induction gl with
  | nil => exact ⟨rfl, trivial⟩
  | cons p l ih =>
    obtain ⟨h, k⟩ := p
    unfold glookup
    split
    · rename_i he
      subst he
      have := hg _ (List.mem_cons_self ..)
      exact ⟨by simp only [SV.ev]; rw [this.1], this.2⟩
    · exact ih fun p hp => hg p (List.mem_cons_of_mem _ hp)

theorem Conc.tmp_ev (h : Conc ρ w0 M gl β st a w) (t : Nat) : a.tmps[t]? = (st.tmp? t).map (SV.ev ρ β) := by
  unfold St.tmp?
  rw [blt_iff]
  by_cases ht : t < st.sz
  · simp [ht, h.tmps t ht]
  · rw [Array.getElem?_eq_none (by rw [h.size]; omega)]; simp [ht]
theorem Conc.get_ev (h : Conc ρ w0 M gl β st a w) (x : Operand) : (st.get gl x).ev ρ β = a.eval x := by
  cases x with
  | tmp t =>
    simp only [St.get, Act.eval]
    rw [Array.getD_eq_getD_getElem?, h.tmp_ev t]
    unfold St.tmp?
    cases Nat.blt t st.sz <;> rfl
  | const v => exact ofValue_ev ρ β v
  | global g => exact (glookup_spec h.gl g).1
  | func f => rfl
theorem Conc.get_ok (h : Conc ρ w0 M gl β st a w) (x : Operand) : (st.get gl x).ok ρ st.hp.n := by
  cases x with
  | tmp t =>
    simp only [St.get, blt_iff]
    by_cases ht : t < st.sz
    · simp only [ht, decide_true, cond_true]; exact h.good t ht
    · simp only [ht, decide_false, cond_false]; trivial
  | const v => exact ofValue_ok ρ _ v
  | global g => exact (glookup_spec h.gl g).2
  | func f => exact ⟨trivial, trivial⟩
theorem St.put_hp (st : St) (d : Option Tmp) (s : SV) : (st.put d s).hp = st.hp := by cases d <;> rfl
theorem St.put_facts (st : St) (d : Option Tmp) (s : SV) : (st.put d s).facts = st.facts := by cases d <;> rfl
theorem oks_set {ρ : Env} {n : Nat} {l : List SV} {s : SV} (h : SV.oks ρ n l) (hs : s.ok ρ n) (i : Nat) : SV.oks ρ n (l.set i s) := by
  rw [SV.oks_mem] at *
  intro x hx
  rcases List.mem_or_eq_of_mem_set hx with h' | h'
  · exact h x h'
  · exact h' ▸ hs
theorem evs_set (ρ : Env) (β : Bm) (l : List SV) (s : SV) (i : Nat) : SV.evs ρ β (l.set i s) = (SV.evs ρ β l).set i (s.ev ρ β) := by
  simp only [SV.evs_map, List.map_set]
theorem Conc.put (h : Conc ρ w0 M gl β st a w) {s : SV} (hs : s.ok ρ st.hp.n) (d : Option Tmp) : Conc ρ w0 M gl β (st.put d s) (a.put d (s.ev ρ β)) w := by
  cases d with
  | none => exact h
  | some d =>
    refine ⟨by simp only [Act.put, St.put, Array.size_setIfInBounds]; exact h.size, fun i hi => ?_, h.defers, fun i hi => ?_, h.heap, h.facts, h.gl⟩
    · simp only [Act.put, St.put, beq_iff] at *
      by_cases he : i = d
      · subst he
        simp [h.size, hi]
      · rw [Array.getElem?_setIfInBounds_ne (Ne.symm he), h.tmps i hi]; simp [he]
    · simp only [St.put, beq_iff]
      by_cases he : i = d
      · simp only [he, decide_true, cond_true]; exact hs
      · simp only [he, decide_false, cond_false]; exact h.good i hi
/-- The same frame, in a world and a heap that go on. -/
theorem Conc.go {β' : Bm} {hp' : Hp} {fs : List (E × Bool)} {w' : World} (h : Conc ρ w0 M gl β st a w) (hx : Ext st.hp.n β β') (hl : st.hp.n ≤ hp'.n) (hh : Heap ρ w0 M β' hp' w')
    (hf : ∀ p ∈ fs, (p.1.ev ρ ≠ 0 ↔ p.2 = true)) : Conc ρ w0 M gl β' { st with hp := hp', facts := fs } a w' :=
  ⟨h.size, fun i hi => by simp only; rw [SV.ev_ext hx _ (h.good i hi)]; exact h.tmps i hi, h.defers, fun i hi => SV.ok_mono hl _ (h.good i hi), hh, hf, fun p hp => by
    have := h.gl p hp
    exact ⟨by rw [hx _ this.2]; exact this.1, Nat.lt_of_lt_of_le this.2 hl⟩⟩
end

/-! ### Tests -/
/-- A negation's body. -/
def E.neg? : E → Option E
  | .bin .eq _ x (.lit 0) => if x.isB then some x else none
  | _ => none
theorem E.neg?_spec {ρ : Env} {c x : E} (h : c.neg? = some x) : (c.ev ρ ≠ 0 ↔ x.ev ρ = 0) := by
  unfold E.neg? at h
  split at h
  · split at h
    · obtain rfl := Option.some.inj h
      rename_i y hb
      by_cases hy : y.ev ρ = 0 <;> simp [E.ev, BOp.ev, hy]
    · cases h
  · cases h
/-- A test that is a linear form already. -/
def E.plain : E → Bool
  | .bin .lt _ (.var _) (.lit _) => true
  | .bin .lt _ (.lit _) (.var _) => true
  | .bin .eq _ (.var _) (.lit _) => true
  | _ => false
/-- Facts about names, their arguments as they are known by now. -/
def isAppT : E → Bool
  | .bin .eq _ (.app _ _ _) (.lit _) => true
  | _ => false
def refresh (fs : List (E × Bool)) : List (E × Bool) → List (E × Bool)
  | [] => []
  | (c, b) :: l => if isAppT c then (canon fs c, b) :: refresh fs l else refresh fs l
theorem refresh_ok {ρ : Env} {fs : List (E × Bool)} (hf : ∀ p ∈ fs, (p.1.ev ρ ≠ 0 ↔ p.2 = true)) : ∀ l : List (E × Bool), (∀ p ∈ l, (p.1.ev ρ ≠ 0 ↔ p.2 = true)) → ∀ p ∈ refresh fs l, (p.1.ev ρ ≠ 0 ↔ p.2 = true)
  | [], _ => fun p hp => by cases hp
  | (c, b) :: l, hl => fun p hp => by
    have ih := refresh_ok hf l fun p hp => hl p (List.mem_cons_of_mem _ hp)
    unfold refresh at hp
    split at hp
    · rcases List.mem_cons.1 hp with rfl | hp
      · have := canon_ev (ρ := ρ) (fs := fs) hf c
        show (canon fs c).ev ρ ≠ 0 ↔ b = true
        rw [this]
        exact hl (c, b) (List.mem_cons_self ..)
      · exact ih p hp
    · exact ih p hp
def knownA (fs : List (E × Bool)) (c : E) : Option Bool :=
  match known fs c with
  | some b => some b
  | none => if isAppT c then known0 (refresh fs fs) c else none
/-- What is known of a test: as it stands, or as a linear form. -/
def knownC (fs : List (E × Bool)) (c : E) : Option Bool :=
  match known fs c with
  | some b => some b
  | none => if c.plain then none else match canon fs c with
    | .lit n => some (n != 0)
    | c' => match c'.neg? with
      | some x => (known fs x).map fun b => !b
      | none => knownA fs c'
theorem knownA_spec {ρ : Env} {c : E} {b : Bool} {fs : List (E × Bool)} (hf : ∀ p ∈ fs, (p.1.ev ρ ≠ 0 ↔ p.2 = true)) (h : knownA fs c = some b) : (c.ev ρ ≠ 0 ↔ b = true) := by
  unfold knownA at h
  split at h
  · rename_i v hv; obtain rfl := Option.some.inj h; exact known_spec hf hv
  · split at h
    · exact known0_spec (refresh_ok hf fs hf) h
    · cases h
theorem neg?_known {ρ : Env} {fs : List (E × Bool)} (hf : ∀ p ∈ fs, (p.1.ev ρ ≠ 0 ↔ p.2 = true)) {c x : E} {b : Bool} (hx : c.neg? = some x) (h : ((known fs x).map fun b => !b) = some b) : (c.ev ρ ≠ 0 ↔ b = true) := by
  have h1 := E.neg?_spec (ρ := ρ) hx
  cases hk : known fs x with
  | none => simp [hk] at h
  | some u =>
    simp only [hk, Option.map_some, Option.some.injEq] at h
    have h2 := known_spec hf hk
    subst h
    rw [h1]
    cases u
    · have : ¬ x.ev ρ ≠ 0 := fun h => by simpa using h2.1 h
      simp only [Bool.not_false, iff_true]
      by_cases h0 : x.ev ρ = 0
      · exact h0
      · exact absurd h0 this
    · have := h2.2 rfl
      simp [this]
theorem knownC_spec {ρ : Env} {c : E} {b : Bool} {fs : List (E × Bool)} (hf : ∀ p ∈ fs, (p.1.ev ρ ≠ 0 ↔ p.2 = true)) (h : knownC fs c = some b) : (c.ev ρ ≠ 0 ↔ b = true) := by
  unfold knownC at h
  split at h
  · rename_i v hv; obtain rfl := Option.some.inj h; exact known_spec hf hv
  · have hc := canon_ev (ρ := ρ) (fs := fs) hf c
    rw [← hc]
    split at h
    · cases h
    split at h
    · rename_i n hn
      obtain rfl := Option.some.inj h
      rw [hn]
      by_cases h0 : n = 0 <;> simp [E.ev, h0]
    · split at h
      · rename_i x hx; exact neg?_known hf hx h
      · exact knownA_spec hf h
/-- What follows of an equation between bytes and a number. -/
def isRd : E → Bool
  | .rd _ _ _ => true
  | _ => false
def sumStep (fs : List (E × Bool)) (n : Int) (k : Int) (e : E) (rest : Tl) : List (E × Bool) :=
  let B := listBnd fs rest
  (match B.lo with
    | some lo => [(.bin .lt .i64 e (.lit ((n - lo).fdiv k + 1)), true)]
    | none => []) ++
  (match B.hi with
    | some hi => [(.bin .lt .i64 (.lit (-((hi - n).fdiv k) - 1)) e, true)]
    | none => [])
def sumFacts (fs : List (E × Bool)) (n : Int) : Tl → Tl → List (E × Bool)
  | _, [] => []
  | done, (k, e) :: l => let new := sumStep fs n k e (done ++ l); new ++ sumFacts (new ++ fs) n (done ++ [(k, e)]) l
def posRd (p : Int × E) : Bool := decide (0 < p.1) && isRd p.2
/-- A sum of bytes that is a multiple of a number that it does not reach. -/
def modFacts (fs : List (E × Bool)) (n : Int) (l : Tl) : List (E × Bool) :=
  match l.filter fun p => !posRd p with
  | [(k, _)] => let a := l.filter posRd
    if n = 0 ∧ k < 0 ∧ inB (listBnd fs a) 0 (-k - 1) = true then sumFacts fs 0 [] a else []
  | _ => []
def orP : E → Option (IntKind × E × E)
  | .bin .or k a b => some (k, a, b)
  | _ => none
def derive (fs : List (E × Bool)) : Nat → E → Int → List (E × Bool)
  | 0, _, _ => []
  | d + 1, e, n => let L := (ana fs e).1
    match L.l with
    | [] => []
    | [(k, x)] => match orP e with
      | some (kk, a, b) => if n = 0 ∧ inB (ana fs a).2 kk.min kk.max = true ∧ inB (ana fs b).2 kk.min kk.max = true then derive fs d a 0 ++ derive fs d b 0 else []
      | none => if k = 0 then [] else if (n - L.c) % k = 0 then [(.bin .eq .i64 x (.lit ((n - L.c) / k)), true)] else []
    | l => if l.all fun p => decide (0 < p.1) && isRd p.2 then sumFacts fs (n - L.c) [] l else modFacts fs (n - L.c) l
theorem fdiv_le' {a b n : Int} (hb : 0 < b) (h : b * a ≤ n) : a ≤ n.fdiv b := by
  rw [Int.fdiv_eq_ediv_of_nonneg _ (by omega)]
  exact (Int.le_ediv_iff_mul_le hb).2 (by rw [Int.mul_comm]; exact h)
theorem evL_append (ρ : Env) : ∀ a b : Tl, evL ρ (a ++ b) = evL ρ a + evL ρ b
  | [], b => by simp [evL]
  | (k, e) :: a, b => by simp only [List.cons_append, evL, evL_append ρ a b]; omega
theorem sumStep_ok {ρ : Env} {fs : List (E × Bool)} (hf : FsOk ρ fs) {n k : Int} {e : E} {rest : Tl} (hk : 0 < k) (h : k * e.ev ρ + evL ρ rest = n) : FsOk ρ (sumStep fs n k e rest) := by
  have hB := listBnd_has hf rest
  intro p hp
  unfold sumStep at hp
  simp only [List.mem_append] at hp
  rcases hp with hp | hp
  · split at hp
    · rename_i lo hlo
      obtain rfl : p = _ := List.mem_singleton.1 hp
      have h1 := hB.1 lo hlo
      have h2 := fdiv_le' (a := e.ev ρ) (n := n - lo) hk (by omega)
      show (if e.ev ρ < (n - lo).fdiv k + 1 then (1 : Int) else 0) ≠ 0 ↔ true = true
      rw [if_pos (by omega)]; simp
    · cases hp
  · split at hp
    · rename_i hi hhi
      obtain rfl : p = _ := List.mem_singleton.1 hp
      have h1 := hB.2 hi hhi
      have h2 := fdiv_le' (a := -(e.ev ρ)) (n := hi - n) hk (by rw [Int.mul_neg]; omega)
      show (if -((hi - n).fdiv k) - 1 < e.ev ρ then (1 : Int) else 0) ≠ 0 ↔ true = true
      rw [if_pos (by omega)]; simp
    · cases hp
theorem fsOk_app' {ρ : Env} {a b : List (E × Bool)} (ha : FsOk ρ a) (hb : FsOk ρ b) : FsOk ρ (a ++ b) := fun p hp => (List.mem_append.1 hp).elim (ha p) (hb p)
theorem sumFacts_ok {ρ : Env} {n : Int} : ∀ (l done : Tl) {fs : List (E × Bool)}, FsOk ρ fs → (∀ p ∈ l, 0 < p.1) → evL ρ done + evL ρ l = n → FsOk ρ (sumFacts fs n done l)
  | [], _, _, _, _, _ => fun p hp => by cases hp
  | (k, e) :: l, done, fs, hf, hk, h => by
    have hk0 : 0 < k := hk (k, e) (List.mem_cons_self ..)
    have h1 := sumStep_ok (rest := done ++ l) hf hk0 (n := n) (e := e) (by
      rw [evL_append]; simp only [evL] at h; omega)
    unfold sumFacts
    refine fsOk_app' h1 (sumFacts_ok l _ (fsOk_app' h1 hf) (fun p hp => hk p (List.mem_cons_of_mem _ hp)) ?_)
    rw [evL_append]
    simp only [evL] at h ⊢
    omega
theorem evL_filter (ρ : Env) (q : Int × E → Bool) : ∀ l : Tl, evL ρ l = evL ρ (l.filter q) + evL ρ (l.filter fun p => !q p)
  | [] => rfl
  | (k, e) :: l => by
    have ih := evL_filter ρ q l
    simp only [List.filter_cons]
    cases q (k, e) <;> simp only [Bool.not_true, Bool.not_false, if_true, Bool.false_eq_true, if_false, evL] <;> omega
theorem inB_has {b : Bnd} {lo hi x : Int} (h : inB b lo hi = true) (hx : b.has x) : lo ≤ x ∧ x ≤ hi := by
  unfold inB at h
  split at h
  · rename_i a c ha hc
    simp only [Bool.and_eq_true, decide_eq_true_eq] at h
    exact ⟨Int.le_trans h.1 (hx.1 a ha), Int.le_trans (hx.2 c hc) h.2⟩
  · cases h
theorem modFacts_ok {ρ : Env} {fs : List (E × Bool)} (hf : FsOk ρ fs) {n : Int} (l : Tl) (h : evL ρ l = n) : FsOk ρ (modFacts fs n l) := by
  unfold modFacts
  split
  · rename_i k e hl
    simp only
    split
    · rename_i hc
      obtain ⟨rfl, hk, hb⟩ := hc
      have h1 := evL_filter ρ posRd l
      rw [hl, h] at h1
      simp only [evL] at h1
      have h2 := inB_has hb (listBnd_has hf _)
      have h3 : evL ρ (l.filter posRd) = (-k) * e.ev ρ := by rw [Int.neg_mul]; omega
      have h4 : e.ev ρ = 0 := by
        rcases Int.lt_trichotomy (e.ev ρ) 0 with h5 | h5 | h5
        · have := Int.mul_le_mul_of_nonneg_left (show e.ev ρ ≤ -1 by omega) (show (0 : Int) ≤ -k by omega)
          omega
        · exact h5
        · have := Int.mul_le_mul_of_nonneg_left (show 1 ≤ e.ev ρ by omega) (show (0 : Int) ≤ -k by omega)
          omega
      rw [h4] at h3
      refine sumFacts_ok _ _ hf (fun p hp => ?_) (by simp only [evL]; omega)
      have := (List.mem_filter.1 hp).2
      simp only [posRd, Bool.and_eq_true, decide_eq_true_eq] at this
      exact this.1
    · exact fun p hp => by cases hp
  · exact fun p hp => by cases hp
theorem ofInt_zero {k : IntKind} {x : Int} (h : k.min ≤ x ∧ x ≤ k.max) (h0 : (BitVec.ofInt k.bits x).toNat = 0) : x = 0 := by
  rw [BitVec.toNat_ofInt] at h0
  cases k <;> simp [IntKind.min, IntKind.max, IntKind.bits, IntKind.signed] at * <;> omega
theorem or_zero {k : IntKind} {x y : Int} (hx : k.min ≤ x ∧ x ≤ k.max) (hy : k.min ≤ y ∧ y ≤ k.max) (h : BOp.ev .or k x y = 0) : x = 0 ∧ y = 0 := by
  have hn : (BitVec.ofInt k.bits x ||| BitVec.ofInt k.bits y).toNat = 0 := by
    have hlt := (BitVec.ofInt k.bits x ||| BitVec.ofInt k.bits y).isLt
    simp only [BOp.ev] at h
    generalize (BitVec.ofInt k.bits x ||| BitVec.ofInt k.bits y).toNat = m at *
    cases k <;> simp [IntKind.wrap, IntKind.bits, IntKind.signed] at * <;> omega
  have hz : BitVec.ofInt k.bits x ||| BitVec.ofInt k.bits y = 0#_ := BitVec.eq_of_toNat_eq (by rw [hn]; simp)
  rw [BitVec.or_eq_zero_iff] at hz
  exact ⟨ofInt_zero hx (by rw [hz.1]; simp), ofInt_zero hy (by rw [hz.2]; simp)⟩
theorem derive_ok {ρ : Env} {fs : List (E × Bool)} (hf : FsOk ρ fs) : ∀ (d : Nat) (e : E) (n : Int), e.ev ρ = n → FsOk ρ (derive fs d e n)
  | 0, _, _, _ => fun p hp => by unfold derive at hp; cases hp
  | d + 1, e, n, h => by
    have he := (ana_ok hf e).1
    unfold Lin.ev at he
    unfold derive
    simp only
    split
    · exact fun p hp => by cases hp
    · rename_i k x hl
      split
      · rename_i kk a b ho
        have hor : e = .bin .or kk a b := by
          unfold orP at ho
          split at ho
          · simp only [Option.some.injEq, Prod.mk.injEq] at ho
            obtain ⟨rfl, rfl, rfl⟩ := ho
            rfl
          · cases ho
        split
        · rename_i hc
          obtain ⟨rfl, ha, hb⟩ := hc
          have h1 := inB_has ha (ana_ok hf a).2
          have h2 := inB_has hb (ana_ok hf b).2
          rw [hor] at h
          obtain ⟨z1, z2⟩ := or_zero h1 h2 h
          exact fsOk_app' (derive_ok hf d a 0 z1) (derive_ok hf d b 0 z2)
        · exact fun p hp => by cases hp
      · split
        · exact fun p hp => by cases hp
        · rename_i hk
          split
          · rename_i hm
            rw [hl] at he
            simp only [evL] at he
            intro p hp
            obtain rfl : p = _ := List.mem_singleton.1 hp
            show (if x.ev ρ = (n - (ana fs e).1.c) / k then (1 : Int) else 0) ≠ 0 ↔ true = true
            have h1 : n - (ana fs e).1.c = k * x.ev ρ := by omega
            rw [h1, Int.mul_ediv_cancel_left _ hk, if_pos rfl]; simp
          · exact fun p hp => by cases hp
    · rename_i l _ hl
      split
      · rename_i hall
        refine sumFacts_ok _ _ hf (fun p hp => ?_) (by simp only [evL]; omega)
        have := List.all_eq_true.1 hall p hp
        simp only [Bool.and_eq_true, decide_eq_true_eq] at this
        exact this.1
      · exact modFacts_ok hf _ (by omega)
def isSum : E → Bool
  | .bin .or _ _ _ => true
  | .bin .zadd _ _ _ => true
  | _ => false
/-- What follows of a fact. -/
def more : Nat → List (E × Bool) → E → Bool → List (E × Bool)
  | 0, fs, _, _ => fs
  | d + 1, fs, .bin .band _ a b, true => more d (more d ((a, true) :: (b, true) :: fs) a true) b true
  | _ + 1, fs, .bin .eq _ e (.lit n), true => if isSum e then derive fs 6 e n ++ fs else fs
  | _ + 1, fs, _, _ => fs
theorem more_ok {ρ : Env} : ∀ (d : Nat) {fs : List (E × Bool)} (c : E) (b : Bool), FsOk ρ fs → (c.ev ρ ≠ 0 ↔ b = true) → FsOk ρ (more d fs c b)
  | 0, fs, c, b, hf, h => hf
  | d + 1, fs, c, b, hf, h => by
    unfold more
    split
    · rename_i heq; cases heq
    · rename_i d' fs k a b' heq
      cases heq
      have h1 := h.2 rfl
      simp only [E.ev, BOp.ev] at h1
      have h2 : a.ev ρ ≠ 0 ∧ b'.ev ρ ≠ 0 := by
        by_cases hx : a.ev ρ ≠ 0 ∧ b'.ev ρ ≠ 0
        · exact hx
        · rw [if_neg hx] at h1; exact absurd rfl h1
      refine more_ok d _ _ (more_ok d _ _ (fun p hp => ?_) (by simp [h2.1])) (by simp [h2.2])
      rcases List.mem_cons.1 hp with rfl | hp
      · simp [h2.1]
      · rcases List.mem_cons.1 hp with rfl | hp
        · simp [h2.2]
        · exact hf p hp
    · rename_i d' fs k e n heq
      cases heq
      have h1 := h.2 rfl
      simp only [E.ev, BOp.ev] at h1
      have h2 : e.ev ρ = n := by
        by_cases hx : e.ev ρ = n
        · exact hx
        · simp [hx] at h1
      split
      · exact fsOk_app' (derive_ok hf 6 e n h2) hf
      · exact hf
    · exact hf
def isOr0 : E → Bool
  | .bin .eq _ (.bin .or _ _ _) (.lit 0) => true
  | _ => false
/-- The facts with one more, as it stands and as a linear form. -/
def learn (fs : List (E × Bool)) (c : E) (b : Bool) : List (E × Bool) :=
  if c.plain then (c, b) :: fs else
  let c' := canon fs c
  if c'.beq c then (c, b) :: more 80 fs c b else match c'.neg? with
    | some x => (x, !b) :: (c, b) :: fs
    | none => (c', b) :: more 80 ((c, b) :: fs) (if isOr0 c then c else c') b
theorem learn_ok {ρ : Env} {c : E} {b : Bool} {fs : List (E × Bool)} (hf : ∀ p ∈ fs, (p.1.ev ρ ≠ 0 ↔ p.2 = true)) (h : c.ev ρ ≠ 0 ↔ b = true) : ∀ p ∈ learn fs c b, (p.1.ev ρ ≠ 0 ↔ p.2 = true) := by
  have hc := canon_ev (ρ := ρ) (fs := fs) hf c
  have base : ∀ p ∈ (c, b) :: fs, (p.1.ev ρ ≠ 0 ↔ p.2 = true) := fun p hp => by
    rcases List.mem_cons.1 hp with rfl | hp
    · exact h
    · exact hf p hp
  unfold learn
  simp only
  split
  · exact base
  split
  · intro p hp
    rcases List.mem_cons.1 hp with rfl | hp
    · exact h
    · exact more_ok 80 c b hf h p hp
  · split
    · rename_i x hx
      have h1 := E.neg?_spec (ρ := ρ) hx
      rw [hc] at h1
      intro p hp
      rcases List.mem_cons.1 hp with rfl | hp
      · show x.ev ρ ≠ 0 ↔ (!b) = true
        cases b
        · have : ¬ c.ev ρ ≠ 0 := fun h0 => by simpa using h.1 h0
          simp only [Bool.not_false, iff_true]
          exact fun h0 => this (h1.2 h0)
        · have := h1.1 (h.2 rfl)
          simp [this]
      · exact base p hp
    · intro p hp
      rcases List.mem_cons.1 hp with rfl | hp
      · show (canon fs c).ev ρ ≠ 0 ↔ b = true
        rw [hc]; exact h
      · exact more_ok 80 _ b base (by split; exact h; rw [hc]; exact h) p hp
/-- What follows of a fact cannot be. -/
def clashL (fs : List (E × Bool)) : Nat → List (E × Bool) → Bool
  | n + 1, (c, b) :: l => (match known fs c with
    | some v => v != b
    | none => false) || clashL fs n l
  | _, _ => false
def clash (fs fs' : List (E × Bool)) : Bool := Nat.blt (fs.length + 2) fs'.length && clashL fs (fs'.length - fs.length) fs'
theorem clashL_spec {ρ : Env} {fs : List (E × Bool)} (hf : FsOk ρ fs) : ∀ {n : Nat} {l : List (E × Bool)}, clashL fs n l = true → FsOk ρ l → False
  | 0, l, h, _ => by unfold clashL at h; cases h
  | n + 1, [], h, _ => by unfold clashL at h; cases h
  | n + 1, (c, b) :: l, h, hl => by
    unfold clashL at h
    rw [Bool.or_eq_true] at h
    rcases h with h | h
    · split at h
      · rename_i v hv
        have h1 := known_spec hf hv
        have h2 : c.ev ρ ≠ 0 ↔ b = true := hl (c, b) (List.mem_cons_self ..)
        have : v = true ↔ b = true := h1.symm.trans h2
        cases v <;> cases b <;> simp at *
      · cases h
    · exact clashL_spec hf h fun p hp => hl p (List.mem_cons_of_mem _ hp)
theorem clash_spec {ρ : Env} {fs fs' : List (E × Bool)} (hf : FsOk ρ fs) (hf' : FsOk ρ fs') (h : clash fs fs' = true) : False := by
  unfold clash at h
  rw [Bool.and_eq_true] at h
  exact clashL_spec hf h.2 hf'
/-- Of two things not both, one is. -/
def bandOut (fs : List (E × Bool)) (c : E) : List (E × Bool) → Bool
  | [] => false
  | (.bin .band _ x y, false) :: l => (y.beq c && known fs x == some true) || (x.beq c && known fs y == some true) || bandOut fs c l
  | _ :: l => bandOut fs c l
theorem bandOut_spec {ρ : Env} {fs : List (E × Bool)} {c : E} (hf : FsOk ρ fs) : ∀ {l : List (E × Bool)}, bandOut fs c l = true → FsOk ρ l → c.ev ρ = 0
  | [], h, _ => by cases h
  | p :: l, h, hl => by
    have ht : FsOk ρ l := fun q hq => hl q (List.mem_cons_of_mem _ hq)
    unfold bandOut at h
    split at h
    · cases h
    · rename_i k x y l' he
      obtain ⟨rfl, rfl⟩ := List.cons.inj he
      simp only [Bool.or_eq_true, Bool.and_eq_true, beq_iff_eq] at h
      have h0 : (E.bin .band k x y).ev ρ = 0 := by
        have := hl (.bin .band k x y, false) (List.mem_cons_self ..)
        simpa using this
      have h1 : ¬ (x.ev ρ ≠ 0 ∧ y.ev ρ ≠ 0) := fun hxy => by
        have e : (E.bin .band k x y).ev ρ = 1 := by show (if x.ev ρ ≠ 0 ∧ y.ev ρ ≠ 0 then (1 : Int) else 0) = 1; rw [if_pos hxy]
        rw [e] at h0; cases h0
      rcases h with (⟨h2, h3⟩ | ⟨h2, h3⟩) | h
      · rw [← E.beq_eq _ _ h2]
        have hx := (known_spec hf h3).2 rfl
        by_cases hy : y.ev ρ = 0
        · exact hy
        · exact absurd ⟨hx, hy⟩ h1
      · rw [← E.beq_eq _ _ h2]
        have hy := (known_spec hf h3).2 rfl
        by_cases hx : x.ev ρ = 0
        · exact hx
        · exact absurd ⟨hx, hy⟩ h1
      · exact bandOut_spec hf h ht
    · rename_i he
      obtain ⟨rfl, rfl⟩ := List.cons.inj he
      exact bandOut_spec hf h ht
def split1 {α : Type} (fs : List (E × Bool)) (c : E) (f g : List (E × Bool) → T α) : T α :=
  match c with
  | .lit n => if n = 0 then g fs else f fs
  | c => match knownC fs c with
    | some true => f fs
    | some false => g fs
    | none => if bandOut fs c fs then g (learn fs c false) else if clash fs (learn fs c true) then g (learn fs c false) else if clash fs (learn fs c false) then f (learn fs c true) else .br c (f (learn fs c true)) (g (learn fs c false))
/-- The test 'c is not 0'. -/
def split {α : Type} (fs : List (E × Bool)) (c : E) (f g : List (E × Bool) → T α) : T α :=
  match c.neg? with
  | some x => split1 fs x g f
  | none => split1 fs c f g
theorem split1_holds {α : Type} {ρ : Env} {fs : List (E × Bool)} {c : E} {f g : List (E × Bool) → T α} {Q : α → Prop} (hf : ∀ p ∈ fs, (p.1.ev ρ ≠ 0 ↔ p.2 = true)) (h : (split1 fs c f g).holds ρ Q) :
    ∃ fs', (∀ p ∈ fs', (p.1.ev ρ ≠ 0 ↔ p.2 = true)) ∧ ((c.ev ρ ≠ 0 ∧ (f fs').holds ρ Q) ∨ (c.ev ρ = 0 ∧ (g fs').holds ρ Q)) := by
  unfold split1 at h
  split at h
  · split at h
    · rename_i hn; exact ⟨fs, hf, .inr ⟨hn, h⟩⟩
    · rename_i hn; exact ⟨fs, hf, .inl ⟨hn, h⟩⟩
  · split at h
    · rename_i hk; exact ⟨fs, hf, .inl ⟨(knownC_spec hf hk).2 rfl, h⟩⟩
    · rename_i hk; exact ⟨fs, hf, .inr ⟨by
        have := knownC_spec hf hk
        simpa using this, h⟩⟩
    split at h
    · rename_i hb
      have hc := bandOut_spec hf hb hf
      exact ⟨_, learn_ok hf (by simp [hc]), .inr ⟨hc, h⟩⟩
    · split at h
      · rename_i hcl
        by_cases hc : c.ev ρ = 0
        · exact ⟨_, learn_ok hf (by simp [hc]), .inr ⟨hc, h⟩⟩
        · exact (clash_spec hf (learn_ok hf (by simp [hc])) hcl).elim
      · split at h
        · rename_i hcl
          by_cases hc : c.ev ρ = 0
          · exact (clash_spec hf (learn_ok hf (by simp [hc])) hcl).elim
          · exact ⟨_, learn_ok hf (by simp [hc]), .inl ⟨hc, h⟩⟩
        · by_cases hc : c.ev ρ = 0
          · exact ⟨_, learn_ok hf (by simp [hc]), .inr ⟨hc, h.2 hc⟩⟩
          · exact ⟨_, learn_ok hf (by simp [hc]), .inl ⟨hc, h.1 hc⟩⟩
theorem split_holds {α : Type} {ρ : Env} {fs : List (E × Bool)} {c : E} {f g : List (E × Bool) → T α} {Q : α → Prop} (hf : ∀ p ∈ fs, (p.1.ev ρ ≠ 0 ↔ p.2 = true)) (h : (split fs c f g).holds ρ Q) :
    ∃ fs', (∀ p ∈ fs', (p.1.ev ρ ≠ 0 ↔ p.2 = true)) ∧ ((c.ev ρ ≠ 0 ∧ (f fs').holds ρ Q) ∨ (c.ev ρ = 0 ∧ (g fs').holds ρ Q)) := by
  unfold split at h
  split at h
  · rename_i x hx
    have hs := E.neg?_spec (ρ := ρ) hx
    obtain ⟨fs', hf', h'⟩ := split1_holds hf h
    refine ⟨fs', hf', ?_⟩
    rcases h' with ⟨h1, h2⟩ | ⟨h1, h2⟩
    · exact .inr ⟨by
        by_cases hc : c.ev ρ = 0
        · exact hc
        · exact absurd (hs.1 hc) h1, h2⟩
    · exact .inl ⟨hs.2 h1, h2⟩
  · exact split1_holds hf h
end Go.Proofs.YtfcpmapfhgibpaaDoor.SX
namespace Go.Proofs.YtfcpmapfhgibpaaDoor.SX
open Go
set_option linter.unusedVariables false

section
variable (P : Program)
def szOf (t : TypeId) : Option Nat := (P.info? t).map (·.size)
def aggT (t : TypeId) : Option Bool :=
  match P.underlying t with
  | some (.struct _) | some (.array _ _) => some true
  | some _ => some false
  | none => none
/-- The part of cells that begins at off and is of type t. -/
def partS (t : TypeId) (l : List SV) (off : Nat) : Option SV :=
  match aggT P t, szOf P t with
  | some true, some n => if off + n ≤ l.length then some (.agg ((l.drop off).take n)) else none
  | some false, some _ => l[off]?
  | _, _ => none
def cellsAt (hp : Hp) (b : Nat) : Option (List SV) :=
  match hp.at b with
  | some ⟨_, .cells c _ _⟩ => some c
  | some ⟨_, .ro c _⟩ => some c
  | some ⟨_, .view o _⟩ => match hp.at o with
    | some ⟨_, .cells c _ _⟩ => some c
    | some ⟨_, .ro c _⟩ => some c
    | _ => none
  | _ => none
def loadS (hp : Hp) (t : TypeId) (s : SV) : Option SV :=
  match s with
  | .ptr b off => match cellsAt hp b with
    | some c => partS P t c off
    | none => none
  | _ => none
def fieldS (t : TypeId) (s : SV) (f : Nat) : Option SV :=
  match P.underlying t, s with
  | some (.struct fs), .agg l => match fs[f]? with
    | some fd => partS P fd.type l fd.offset
    | none => none
  | _, _ => none
def faddrS (t : TypeId) (s : SV) (f : Nat) : Option SV :=
  match P.underlying t, s with
  | some (.struct fs), .ptr b off => match fs[f]? with
    | some fd => match szOf P fd.type with
      | some (_ + 1) => some (.ptr b (off + fd.offset))
      | _ => none
    | none => none
  | _, _ => none
def natLit (s : SV) : Option Nat :=
  match s with
  | .int _ (.lit (.ofNat n)) => some n
  | _ => none
def iaddrS (t : TypeId) (s i : SV) : Option SV :=
  match P.underlying t, s, natLit i with
  | some (.array len e), .ptr b off, some n => match szOf P e with
    | some z => if n < len then some (.ptr b (off + n * z)) else none
    | none => none
  | some (.slice e), .slice b off len _, some n => match szOf P e with
    | some z => if n < len then some (.ptr b (off + n * z)) else none
    | none => none
  | _, _, _ => none
def indexS (t : TypeId) (s i : SV) : Option SV :=
  match P.underlying t, s, natLit i with
  | some (.array len e), .agg l, some n => match szOf P e with
    | some z => if n < len then partS P e l (n * z) else none
    | none => none
  | _, _, _ => none

/-! ### Integers -/
def unsignedK : IntKind → Bool
  | .u8 | .u16 | .u32 | .u64 => true
  | _ => false
def notNeg (k : IntKind) (e : E) : Bool :=
  unsignedK k || (match e with | .lit (.ofNat _) => true | _ => false)
def notZero (e : E) : Bool :=
  match e with
  | .lit n => n != 0
  | _ => false
def neg (e : E) : E :=
  match e with
  | .lit n => .lit (if n = 0 then 1 else 0)
  | e => match e.neg? with
    | some x => x
    | none => .bin .eq .i64 e (.lit 0)
def isB' (e : E) : Bool :=
  match e with
  | .lit n => n == 0 || n == 1
  | e => e.isB
/-- A test as 0 or 1. -/
def toB (e : E) : E := if isB' e then e else .bin .eq .i64 (.bin .eq .i64 e (.lit 0)) (.lit 0)
def bitOp : BinOp → Option BOp
  | .and => some .and | .or => some .or | .xor => some .xor | .andNot => some .andNot
  | _ => none
def arithOp : BinOp → Option BOp
  | .add => some .add | .sub => some .sub | .mul => some .mul
  | _ => none
def intS (op : BinOp) (k : IntKind) (a b : E) : Option SV :=
  match op with
  | .add => some (.int k (mk .add k a b))
  | .sub => some (.int k (mk .sub k a b))
  | .mul => some (.int k (mk .mul k a b))
  | .and => some (.int k (mk .and k a b))
  | .or => some (.int k (mk .or k a b))
  | .xor => some (.int k (mk .xor k a b))
  | .andNot => some (.int k (mk .andNot k a b))
  | .quo => if notZero b then some (.int k (mk .quo k a b)) else none
  | .rem => if notZero b then some (.int k (mk .rem k a b)) else none
  | .eql => some (.bool (mk .eq k a b))
  | .neq => some (.bool (neg (mk .eq k a b)))
  | .lss => some (.bool (mk .lt k a b))
  | .gtr => some (.bool (mk .lt k b a))
  | .leq => some (.bool (neg (mk .lt k b a)))
  | .geq => some (.bool (neg (mk .lt k a b)))
  | _ => none
/-- '==' of two values of a type. -/
def eqS : Nat → TypeId → SV → SV → Option E
  | 0, _, _, _ => none
  | d + 1, t, x, y =>
    match P.underlying t, x, y with
    | some .bool, .bool a, .bool b => some (mk .eq .i64 (toB a) (toB b))
    | some (.int _), .int k a, .int k' b => if kTag k = kTag k' then some (mk .eq k a b) else none
    | some (.pointer _), .raw (.pointer none), .raw (.pointer none) => some (.lit 1)
    | some (.pointer _), .raw (.pointer none), .ptr _ _ => some (.lit 0)
    | some (.pointer _), .ptr _ _, .raw (.pointer none) => some (.lit 0)
    | some (.slice _), .raw (.slice none _ _), .raw (.slice none _ _) => some (.lit 1)
    | some (.slice _), .raw (.slice none _ _), .slice _ _ _ _ => some (.lit 0)
    | some (.slice _), .slice _ _ _ _, .raw (.slice none _ _) => some (.lit 0)
    | some (.struct fs), .agg l, .agg m =>
      if P.stoodInHeld t then none else
      fs.toList.foldr (fun f acc => if f.name = "_" then acc else
        match partS P f.type l f.offset, partS P f.type m f.offset with
        | some u, some v => match eqS d f.type u v, acc with
          | some e, some r => some (mk .band .i64 e r)
          | _, _ => none
        | _, _ => none) (some (.lit 1))
    | _, _, _ => none
def eqBytes : List E → List E → E
  | [], [] => .lit 1
  | a :: l, b :: m => mk .band .i64 (mk .eq .u8 a b) (eqBytes l m)
  | _, _ => .lit 0
def binS (op : BinOp) (t : TypeId) (x y : SV) : Option SV :=
  match op, x, y with
  | .shl, .int k a, .int j b => if notNeg j b then some (.int k (mk .shl k a b)) else none
  | .shr, .int k a, .int j b => if notNeg j b then some (.int k (mk .shr k a b)) else none
  | op, .int k a, .int j b => if kTag k = kTag j then intS op k a b else none
  | .eql, .str l, .str m => some (.bool (eqBytes l m))
  | .eql, x, y => (eqS P 8 t x y).map fun e => .bool e
  | .neq, x, y => (eqS P 8 t x y).map fun e => .bool (neg e)
  | _, _, _ => none
def unS (op : UnOp) (s : SV) : Option SV :=
  match op, s with
  | .neg, .int k e => some (.int k (mk .sub k (.lit 0) e))
  | .xor, .int k e => some (.int k (mk .xor k (.lit (if k.signed then -1 else k.max)) e))
  | .not, .bool e => some (.bool (neg e))
  | _, _ => none
def convS (src dst : TypeId) (s : SV) : Option SV :=
  match P.underlying src, P.underlying dst, s with
  | some _, some (.int k), .int _ e => some (.int k (mk .conv k e (.lit 0)))
  | _, _, _ => none
end

/-! ### They are right -/
section
variable {P : Program} {ρ : Env} {β : Bm} {w : World} {n : Nat}

theorem aggT_run {t : TypeId} {b : Bool} (h : aggT P t = some b) (w : World) : (isAgg t).run P w = .ok b w := by
  unfold aggT at h
  cases hu : P.underlying t with
  | none => simp [hu] at h
  | some d => cases d <;> simp [hu] at h <;> subst h <;> simp [isAgg, run_underlying hu]
theorem szOf_run {t : TypeId} {z : Nat} (h : szOf P t = some z) (w : World) : (sizeOf t).run P w = .ok z w := by
  unfold szOf at h
  cases hi : P.info? t with
  | none => simp [hi] at h
  | some i => simp [hi] at h; subst h; simp [sizeOf, typeInfo, hi]
theorem oks_part {l : List SV} (h : SV.oks ρ n l) (i j : Nat) : SV.oks ρ n ((l.drop i).take j) := by
  rw [SV.oks_mem] at *
  exact fun s hs => h s (List.mem_of_mem_drop (List.mem_of_mem_take hs))
theorem oks_get {l : List SV} {i : Nat} {s : SV} (h : SV.oks ρ n l) (hs : l[i]? = some s) : s.ok ρ n := SV.oks_mem.1 h s (List.mem_of_getElem? hs)
theorem partS_run {t : TypeId} {l : List SV} {off : Nat} {r : SV} (hl : SV.oks ρ n l) (h : partS P t l off = some r) (rest : List Value) (w : World) :
    (part t (SV.evs ρ β l ++ rest).toArray off).run P w = .ok (r.ev ρ β) w ∧ r.ok ρ n := by
  unfold partS at h
  split at h
  · rename_i z ha hz
    split at h
    · rename_i hle
      obtain rfl := Option.some.inj h
      refine ⟨?_, oks_part hl _ _⟩
      simp only [part, Sem.run_bind, aggT_run ha w, Result.andThen_ok, if_true, szOf_run hz w, Sem.run_pure, SV.ev]
      congr 2
      rw [SV.evs_map, SV.evs_map]
      apply Array.ext'
      simp only [List.extract_toArray, List.extract_eq_take_drop]
      rw [List.drop_append_of_le_length (by simp; omega), List.take_append_of_le_length (by simp; omega)]
      simp [List.map_take, List.map_drop]
    · cases h
  · rename_i z ha hz
    refine ⟨?_, oks_get hl h⟩
    have hlt := (List.getElem?_eq_some_iff.1 h).1
    have : (SV.evs ρ β l ++ rest).toArray[off]? = some (r.ev ρ β) := by
      rw [List.getElem?_toArray, List.getElem?_append_left (by rw [SV.evs_map]; simpa using hlt), SV.evs_map, List.getElem?_map, h]
      rfl
    simp only [part, Sem.run_bind, aggT_run ha w, Result.andThen_ok, Bool.false_eq_true, if_false, this, Sem.run_pure]
  · cases h
theorem add_lit (b o i : Nat) : (⟨b, o, none⟩ : Addr).add i = ⟨b, o + i, none⟩ := by
  unfold Addr.add
  split
  · rename_i h; subst h; rfl
  · rfl
theorem Bx.lies_cells {c : List SV} {ty : TypeId} {tail : Nat} {b : Nat × Nat} (h : (Bx.cells c ty tail).lies ρ β b w) : ∃ rest : List Value, w.heap[b.1]? = some (.cells (SV.evs ρ β c ++ rest).toArray ty (0, 0)) := by
  cases tail with
  | zero => exact ⟨[], by simpa [Bx.lies] using h⟩
  | succ s => obtain ⟨rest, h1, _⟩ := h; exact ⟨rest, h1⟩
/-- What a pure operation may know of the world: the boxes. -/
structure Sees (ρ : Env) (β : Bm) (n : Nat) (hp : Hp) (w : World) : Prop where
  lies : ∀ (k : Nat) (b : Box), hp.at k = some b → b.c.lies ρ β (β k) w
  good : ∀ (k : Nat) (b : Box), hp.at k = some b → b.c.ok ρ n
theorem cellsAt_spec {hp : Hp} {b : Nat} {c : List SV} (hs : Sees ρ β n hp w) (h : cellsAt hp b = some c) : (∀ (j : Nat) (v : Value), (SV.evs ρ β c)[j]? = some v → w.cell? ⟨(β b).1, j, none⟩ = some v) ∧ SV.oks ρ n c := by
  unfold cellsAt at h
  split at h
  · rename_i ty tail hb
    obtain rfl := Option.some.inj h
    obtain ⟨rest, hg⟩ := Bx.lies_cells (hs.lies _ _ hb)
    refine ⟨fun j v hv => ?_, hs.good _ _ hb⟩
    rw [cell_of_row w _ j _ _ _ hg, List.getElem?_toArray, List.getElem?_append_left (List.getElem?_eq_some_iff.1 hv).1]
    exact hv
  · rename_i hb
    obtain rfl := Option.some.inj h
    exact ⟨(hs.lies _ _ hb).1, hs.good _ _ hb⟩
  · rename_i r o l hb
    have hv := (hs.lies _ _ hb).1
    rw [hv]
    split at h
    · rename_i ho
      obtain rfl := Option.some.inj h
      obtain ⟨rest, hg⟩ := Bx.lies_cells (hs.lies _ _ ho)
      refine ⟨fun j v hv => ?_, hs.good _ _ ho⟩
      rw [cell_of_row w _ j _ _ _ hg, List.getElem?_toArray, List.getElem?_append_left (List.getElem?_eq_some_iff.1 hv).1]
      exact hv
    · rename_i ho
      obtain rfl := Option.some.inj h
      exact ⟨(hs.lies _ _ ho).1, hs.good _ _ ho⟩
    · cases h
  · cases h
theorem loadS_run {hp : Hp} {t : TypeId} {s r : SV} (hs : Sees ρ β n hp w) (h : loadS P hp t s = some r) : (Instr.loadAt t (s.ev ρ β)).run P w = .ok (r.ev ρ β) w ∧ r.ok ρ n := by
  unfold loadS at h
  split at h
  · rename_i b off
    split at h
    · rename_i c hc
      obtain ⟨hcell, hgood⟩ := cellsAt_spec hs hc
      have hp := partS_run (β := β) hgood h [] w
      refine ⟨?_, hp.2⟩
      have hp1 := hp.1
      unfold partS at h
      split at h
      · rename_i z ha hz
        split at h
        · rename_i hle
          obtain rfl := Option.some.inj h
          simp only [SV.ev, Instr.loadAt, Instr.sureAddr, Sem.run_bind, Sem.run_pure, Result.andThen_ok, loadVar, aggT_run ha w, if_true, szOf_run hz w]
          have hl : (loadCells ⟨(β b).1, off, none⟩ (SV.evs ρ β ((c.drop off).take z)).length).run P w = .ok (SV.evs ρ β ((c.drop off).take z)).toArray w :=
            run_loadCells_list w _ _ fun j v hv => by
              rw [add_lit]
              refine hcell _ v ?_
              rw [SV.evs_map, List.getElem?_map, List.getElem?_take] at hv
              split at hv
              · rw [List.getElem?_drop] at hv
                rw [SV.evs_map, List.getElem?_map]
                exact hv
              · cases hv
          have hlen : (SV.evs ρ β ((c.drop off).take z)).length = z := by rw [SV.evs_map]; simp; omega
          rw [hlen] at hl
          simp only [hl, Result.andThen_ok]
        · cases h
      · rename_i z ha hz
        have hlt := (List.getElem?_eq_some_iff.1 h).1
        have hv : w.cell? ⟨(β b).1, off, none⟩ = some (r.ev ρ β) := by
          refine hcell _ _ ?_
          rw [SV.evs_map, List.getElem?_map, h]; rfl
        simp only [SV.ev, Instr.loadAt, Instr.sureAddr, Sem.run_bind, Sem.run_pure, Result.andThen_ok, loadVar, aggT_run ha w, Bool.false_eq_true, if_false, run_load, hv]
      · cases h
    · cases h
  · cases h
theorem fieldS_run {t : TypeId} {s r : SV} {f : Nat} (hs : s.ok ρ n) (h : fieldS P t s f = some r) (w : World) : (Instr.field t (s.ev ρ β) f).run P w = .ok (r.ev ρ β) w ∧ r.ok ρ n := by
  unfold fieldS at h
  split at h
  · rename_i fs l hu
    split at h
    · rename_i fd hf
      have := partS_run (β := β) (show SV.oks ρ n l from hs) h [] w
      rw [List.append_nil] at this
      refine ⟨?_, this.2⟩
      simp only [Instr.field, Sem.run_bind, run_underlying hu w, Result.andThen_ok, hf, SV.ev, asAgg, Sem.run_pure, this.1]
    · cases h
  · cases h
theorem faddrS_run {t : TypeId} {s r : SV} {f : Nat} (hs : s.ok ρ n) (h : faddrS P t s f = some r) (w : World) : (Instr.fieldAt t (s.ev ρ β) f).run P w = .ok (r.ev ρ β) w ∧ r.ok ρ n := by
  unfold faddrS at h
  split at h
  · rename_i fs b off hu
    split at h
    · rename_i fd hf
      split at h
      · rename_i z hz
        obtain rfl := Option.some.inj h
        refine ⟨?_, hs⟩
        simp [Instr.fieldAt, run_underlying hu w, hf, SV.ev, Instr.sureAddr, fieldPlace, szOf_run hz w, add_lit]
      · cases h
    · cases h
  · cases h
theorem natLit_spec {s : SV} {m : Nat} (h : natLit s = some m) : ∃ k, s = .int k (.lit (m : Int)) := by
  unfold natLit at h
  split at h
  · rename_i k m'
    obtain rfl := Option.some.inj h
    exact ⟨k, rfl⟩
  · cases h
theorem iaddrS_run {t : TypeId} {s i r : SV} (hs : s.ok ρ n) (h : iaddrS P t s i = some r) (w : World) : (Instr.indexAt t (s.ev ρ β) (i.ev ρ β)).run P w = .ok (r.ev ρ β) w ∧ r.ok ρ n := by
  unfold iaddrS at h
  split at h
  · rename_i len e b off m hu hi
    obtain ⟨k, rfl⟩ := natLit_spec hi
    split at h
    · rename_i z hz
      split at h
      · rename_i hlt
        obtain rfl := Option.some.inj h
        refine ⟨?_, hs⟩
        simp [Instr.indexAt, run_underlying hu w, SV.ev, E.ev, asIntOf, Instr.sureAddr, szOf_run hz w, add_lit, hlt]
      · cases h
    · cases h
  · rename_i e b off len cap m hu hi
    obtain ⟨k, rfl⟩ := natLit_spec hi
    split at h
    · rename_i z hz
      split at h
      · rename_i hlt
        obtain rfl := Option.some.inj h
        refine ⟨?_, hs⟩
        cases cap <;> simp [Instr.indexAt, run_underlying hu w, SV.ev, E.ev, asIntOf, Instr.sureAddr, szOf_run hz w, add_lit, hlt]
      · cases h
    · cases h
  · cases h
theorem indexS_run {t : TypeId} {s i r : SV} (hs : s.ok ρ n) (h : indexS P t s i = some r) (w : World) : (Instr.index t (s.ev ρ β) (i.ev ρ β)).run P w = .ok (r.ev ρ β) w ∧ r.ok ρ n := by
  unfold indexS at h
  split at h
  · rename_i len e l m hu hi
    obtain ⟨k, rfl⟩ := natLit_spec hi
    split at h
    · rename_i z hz
      split at h
      · rename_i hlt
        have := partS_run (β := β) (show SV.oks ρ n l from hs) h [] w
        rw [List.append_nil] at this
        refine ⟨?_, this.2⟩
        simp [Instr.index, run_underlying hu w, SV.ev, E.ev, asIntOf, szOf_run hz w, hlt, this.1]
      · cases h
    · cases h
  · cases h

theorem neg_ev (ρ : Env) (e : E) : ((neg e).ev ρ ≠ 0 ↔ e.ev ρ = 0) := by
  unfold neg
  split
  · rename_i m
    by_cases hm : m = 0 <;> simp [E.ev, hm]
  · split
    · rename_i x hx
      have := E.neg?_spec (ρ := ρ) hx
      constructor
      · intro h
        by_cases he : e.ev ρ = 0
        · exact he
        · exact absurd (this.1 he) h
      · intro h hx0
        exact (this.2 hx0) h
    · by_cases he : e.ev ρ = 0 <;> simp [E.ev, BOp.ev, he]
theorem neg_bool (ρ : Env) (e : E) : decide ((neg e).ev ρ ≠ 0) = !decide (e.ev ρ ≠ 0) := by
  have := neg_ev ρ e
  by_cases he : e.ev ρ = 0
  · have h1 := this.2 he; simp [he, h1]
  · have h1 : ¬ (neg e).ev ρ ≠ 0 := fun h => he (this.1 h)
    simp only [he, ne_eq, not_false_eq_true, decide_true, Bool.not_true, decide_eq_false_iff_not]
    exact h1
theorem wf_shr (k : IntKind) (x : Int) (m : Nat) (h : (Lit.int k x).wf = true) : (Lit.int k (x.fdiv (2 ^ m))).wf = true := by
  rw [wf_iff] at *
  have hp : (0 : Int) < 2 ^ m := Int.pow_pos (by decide)
  have h1 : (1 : Int) ≤ 2 ^ m := hp
  rw [Int.fdiv_eq_ediv_of_nonneg _ (by omega)]
  have hmin : k.min ≤ 0 := by cases k <;> decide
  have hmax : 0 ≤ k.max := by cases k <;> decide
  constructor
  · rw [Int.le_ediv_iff_mul_le hp]
    have : k.min * 2 ^ m ≤ k.min * 1 := Int.mul_le_mul_of_nonpos_left hmin h1
    omega
  · rcases Int.le_total 0 x with h0 | h0
    · have := Int.ediv_le_self (2 ^ m : Int) h0; omega
    · have : x / 2 ^ m ≤ 0 / 2 ^ m := Int.ediv_le_ediv hp h0
      simp at this; omega
theorem wf_rem (k : IntKind) (x y : Int) (h : (Lit.int k x).wf = true) : (Lit.int k (x.tmod y)).wf = true := by
  rw [wf_iff] at *
  have hmin : k.min ≤ 0 := by cases k <;> decide
  have hmax : 0 ≤ k.max := by cases k <;> decide
  rcases Int.le_total 0 x with h0 | h0
  · have h1 := Int.tmod_nonneg y h0
    have h2 : x.tmod y ≤ x := by
      obtain ⟨a, rfl⟩ := Int.eq_ofNat_of_zero_le h0
      cases y with
      | ofNat b => show ((a % b : Nat) : Int) ≤ a; have := Nat.mod_le a b; omega
      | negSucc b => show ((a % (b + 1) : Nat) : Int) ≤ a; have := Nat.mod_le a (b + 1); omega
    omega
  · have h1 : x.tmod y ≤ 0 := by
      have := Int.tmod_nonneg y (show 0 ≤ -x by omega)
      rw [Int.neg_tmod] at this; omega
    have h2 : x ≤ x.tmod y := by
      have h3 : (-x).tmod y ≤ -x := by
        obtain ⟨a, ha⟩ := Int.eq_ofNat_of_zero_le (show 0 ≤ -x by omega)
        rw [ha]
        cases y with
        | ofNat b => show ((a % b : Nat) : Int) ≤ a; have := Nat.mod_le a b; omega
        | negSucc b => show ((a % (b + 1) : Nat) : Int) ≤ a; have := Nat.mod_le a (b + 1); omega
      rw [Int.neg_tmod] at h3; omega
    omega
end
end Go.Proofs.YtfcpmapfhgibpaaDoor.SX
namespace Go.Proofs.YtfcpmapfhgibpaaDoor.SX
open Go
set_option linter.unusedVariables false

section
variable {P : Program} {ρ : Env} {β : Bm} {w : World} {n : Nat}

theorem wf_of_wrap (k : IntKind) (x : Int) : (Lit.int k (k.wrap x)).wf = true := wf_wrap k x

theorem notZero_spec {e : E} (ρ : Env) (h : notZero e = true) : e.ev ρ ≠ 0 := by
  unfold notZero at h
  split at h
  · simpa [E.ev] using h
  · cases h
theorem notNeg_spec {k : IntKind} {e : E} (hw : (Lit.int k (e.ev ρ)).wf = true) (h : notNeg k e = true) : 0 ≤ e.ev ρ := by
  unfold notNeg at h
  rw [Bool.or_eq_true] at h
  rcases h with h | h
  · rw [wf_iff] at hw
    have : k.min = 0 := by cases k <;> first | rfl | (simp [unsignedK] at h)
    omega
  · split at h
    · simp [E.ev]
    · cases h

theorem intS_run {op : BinOp} {k : IntKind} {a b : E} {r : SV} (ha : (Lit.int k (a.ev ρ)).wf = true) (hb : (Lit.int k (b.ev ρ)).wf = true) (h : intS op k a b = some r) (t : TypeId) (w : World) :
    (binOp op t (.int k (a.ev ρ)) (.int k (b.ev ρ))).run P w = .ok (r.ev ρ β) w ∧ r.ok ρ n := by
  cases op <;> simp only [intS, Option.some.injEq, reduceCtorEq] at h
  case add => subst h; exact ⟨by simp [binOp, Op.intArith, SV.ev, mk_ev, BOp.ev], by simp only [SV.ok, mk_ev]; exact wf_of_wrap _ _⟩
  case sub => subst h; exact ⟨by simp [binOp, Op.intArith, SV.ev, mk_ev, BOp.ev], by simp only [SV.ok, mk_ev]; exact wf_of_wrap _ _⟩
  case mul => subst h; exact ⟨by simp [binOp, Op.intArith, SV.ev, mk_ev, BOp.ev], by simp only [SV.ok, mk_ev]; exact wf_of_wrap _ _⟩
  case and => subst h; exact ⟨by simp [binOp, Op.intBits, SV.ev, mk_ev, BOp.ev], by simp only [SV.ok, mk_ev]; exact wf_of_wrap _ _⟩
  case or => subst h; exact ⟨by simp [binOp, Op.intBits, SV.ev, mk_ev, BOp.ev], by simp only [SV.ok, mk_ev]; exact wf_of_wrap _ _⟩
  case xor => subst h; exact ⟨by simp [binOp, Op.intBits, SV.ev, mk_ev, BOp.ev], by simp only [SV.ok, mk_ev]; exact wf_of_wrap _ _⟩
  case andNot => subst h; exact ⟨by simp [binOp, Op.intBits, SV.ev, mk_ev, BOp.ev], by simp only [SV.ok, mk_ev]; exact wf_of_wrap _ _⟩
  case quo =>
    split at h
    · rename_i hz
      obtain rfl := Option.some.inj h
      have := notZero_spec ρ hz
      exact ⟨by simp [binOp, Op.intDiv, SV.ev, mk_ev, BOp.ev, this], by simp only [SV.ok, mk_ev]; exact wf_of_wrap _ _⟩
    · cases h
  case rem =>
    split at h
    · rename_i hz
      obtain rfl := Option.some.inj h
      have := notZero_spec ρ hz
      exact ⟨by simp [binOp, Op.intDiv, SV.ev, mk_ev, BOp.ev, this], by simp only [SV.ok, mk_ev]; exact wf_rem _ _ _ ha⟩
    · cases h
  case eql =>
    subst h
    refine ⟨?_, trivial⟩
    simp only [binOp, Op.intCmp, SV.ev, mk_ev, BOp.ev, ne_eq, not_true_eq_false, if_false, Sem.run_pure]
    by_cases he : a.ev ρ = b.ev ρ <;> simp [he]
  case neq =>
    subst h
    refine ⟨?_, trivial⟩
    simp only [binOp, Op.intCmp, SV.ev, neg_bool, mk_ev, BOp.ev, ne_eq, not_true_eq_false, if_false, Sem.run_pure]
    by_cases he : a.ev ρ = b.ev ρ <;> simp [he]
  case lss =>
    subst h
    refine ⟨?_, trivial⟩
    simp only [binOp, Op.intCmp, SV.ev, mk_ev, BOp.ev, ne_eq, not_true_eq_false, if_false, Sem.run_pure]
    by_cases he : a.ev ρ < b.ev ρ <;> simp [he]
  case gtr =>
    subst h
    refine ⟨?_, trivial⟩
    simp only [binOp, Op.intCmp, SV.ev, mk_ev, BOp.ev, ne_eq, not_true_eq_false, if_false, Sem.run_pure]
    by_cases he : b.ev ρ < a.ev ρ <;> simp [he]
  case leq =>
    subst h
    refine ⟨?_, trivial⟩
    simp only [binOp, Op.intCmp, SV.ev, neg_bool, mk_ev, BOp.ev, ne_eq, not_true_eq_false, if_false, Sem.run_pure]
    by_cases he : b.ev ρ < a.ev ρ
    · have h1 : ¬ a.ev ρ ≤ b.ev ρ := by omega
      simp [he, h1]
    · have h1 : a.ev ρ ≤ b.ev ρ := by omega
      simp [he, h1]
  case geq =>
    subst h
    refine ⟨?_, trivial⟩
    simp only [binOp, Op.intCmp, SV.ev, neg_bool, mk_ev, BOp.ev, ne_eq, not_true_eq_false, if_false, Sem.run_pure]
    by_cases he : a.ev ρ < b.ev ρ
    · have h1 : ¬ a.ev ρ ≥ b.ev ρ := by omega
      simp [he, h1]
    · have h1 : a.ev ρ ≥ b.ev ρ := by omega
      simp [he, h1]

theorem isB'_ev {e : E} (h : isB' e = true) : e.ev ρ = 0 ∨ e.ev ρ = 1 := by
  unfold isB' at h
  split at h
  · simpa [E.ev] using h
  · exact E.isB_ev ρ h

theorem toB_ev (e : E) : ((toB e).ev ρ = 0 ∨ (toB e).ev ρ = 1) ∧ ((toB e).ev ρ ≠ 0 ↔ e.ev ρ ≠ 0) := by
  unfold toB
  split
  · rename_i h; exact ⟨isB'_ev h, Iff.rfl⟩
  · simp only [E.ev, BOp.ev]
    by_cases h : e.ev ρ = 0 <;> simp [h]
theorem eqS_run : ∀ (d m : Nat) (t : TypeId) (x y : SV) (e : E), x.ok ρ n → y.ok ρ n → eqS P d t x y = some e →
    ∀ w : World, (Op.equalIn (d + m) t (x.ev ρ β) (y.ev ρ β)).run P w = .ok (decide (e.ev ρ ≠ 0)) w
  | 0, _, _, _, _, _, _, _, h => by simp [eqS] at h
  | d + 1, m, t, x, y, e, hx, hy, h => by
    intro w
    rw [show d + 1 + m = (d + m) + 1 by omega]
    unfold eqS at h
    split at h
    · rename_i a b hu
      obtain rfl := Option.some.inj h
      simp only [SV.ev]
      rw [run_equalIn_bool' w _ _ _ _ hu]
      congr 1
      simp only [mk_ev, BOp.ev]
      obtain ⟨a1, a2⟩ := toB_ev (ρ := ρ) a
      obtain ⟨b1, b2⟩ := toB_ev (ρ := ρ) b
      have ea : decide (a.ev ρ ≠ 0) = decide ((toB a).ev ρ ≠ 0) := decide_eq_decide.2 a2.symm
      have eb : decide (b.ev ρ ≠ 0) = decide ((toB b).ev ρ ≠ 0) := decide_eq_decide.2 b2.symm
      rw [ea, eb]
      rcases a1 with h1 | h1 <;> rcases b1 with h2 | h2 <;> simp [h1, h2]
    · rename_i k k1 a k2 b hu
      split at h
      · rename_i hk
        obtain rfl := kTag_inj hk
        obtain rfl := Option.some.inj h
        simp only [SV.ev]
        rw [run_equalIn_int w _ _ _ _ _ _ hu]
        congr 1
        simp only [mk_ev, BOp.ev]
        by_cases he : a.ev ρ = b.ev ρ <;> simp [he]
      · cases h
    · rename_i hu; obtain rfl := Option.some.inj h; simp [SV.ev, Op.equalIn, run_underlying hu w, E.ev]
    · rename_i hu; obtain rfl := Option.some.inj h; simp [SV.ev, Op.equalIn, run_underlying hu w, E.ev]
    · rename_i hu; obtain rfl := Option.some.inj h; simp [SV.ev, Op.equalIn, run_underlying hu w, E.ev]
    · rename_i hu; obtain rfl := Option.some.inj h; simp [SV.ev, Op.equalIn, run_underlying hu w, E.ev]
    · rename_i b o l c hu; obtain rfl := Option.some.inj h; cases c <;> simp [SV.ev, Op.equalIn, run_underlying hu w, E.ev]
    · rename_i b o l c _ _ hu; obtain rfl := Option.some.inj h; cases c <;> simp [SV.ev, Op.equalIn, run_underlying hu w, E.ev]
    · rename_i fs l k hu
      split at h
      · cases h
      · rename_i hst
        have hst : P.stoodInHeld t = false := by simpa using hst
        have hfo : P.fieldsOf t = fs := by unfold Program.fieldsOf; rw [hu]
        simp only [SV.ev]
        rw [run_equalIn_struct w _ _ _ _ (by rw [hfo]; exact hu) hst, hfo]
        generalize fs.toList = fl at h
        clear hu hfo hst
        induction fl generalizing e w with
        | nil => obtain rfl := Option.some.inj h; simp [Op.eqFields, E.ev]
        | cons f fl ih =>
          simp only [List.foldr_cons] at h
          by_cases hn : f.name = "_"
          · rw [if_pos hn] at h
            simp only [Op.eqFields, hn, ne_eq, not_true_eq_false, if_false]
            exact ih e w h
          · rw [if_neg hn] at h
            split at h
            · rename_i u v hu hv
              split at h
              · rename_i e1 r he1 hr
                obtain rfl := Option.some.inj h
                have pu := partS_run (β := β) (show SV.oks ρ n l from hx) hu [] w
                have pv := partS_run (β := β) (show SV.oks ρ n k from hy) hv [] w
                rw [List.append_nil] at pu pv
                have q := eqS_run d m f.type u v e1 pu.2 pv.2 he1 w
                simp only [Op.eqFields, ne_eq, hn, not_false_eq_true, if_true, Sem.run_bind, pu.1, pv.1, Result.andThen_ok, q, Sem.run_ite]
                have ih' := ih r w hr
                by_cases hz : e1.ev ρ = 0
                · simp [hz, mk_ev, BOp.ev]
                · simp only [ne_eq, hz, not_false_eq_true, decide_true, Bool.not_true, Bool.false_eq_true, if_false, ih', mk_ev, BOp.ev]
                  congr 1
                  by_cases hr0 : r.ev ρ = 0 <;> simp [hr0]
              · cases h
            · cases h
    · cases h

theorem bytesV_eq : ∀ {l m : List E}, (∀ x ∈ E.evs ρ l, 0 ≤ x ∧ x < 256) → (∀ x ∈ E.evs ρ m, 0 ≤ x ∧ x < 256) → ((bytesV (E.evs ρ l)).toList == (bytesV (E.evs ρ m)).toList) = decide ((eqBytes l m).ev ρ ≠ 0) := by
  have hto : ∀ l : List Int, (bytesV l).toList = l.map fun n => UInt8.ofNat n.toNat := fun l => by rw [ByteArray.toList_eq]; simp [bytesV]
  intro l
  induction l with
  | nil =>
    intro m _ _
    rw [hto, hto]
    cases m with
    | nil => rfl
    | cons b m => rfl
  | cons a l ih =>
    intro m hl hm
    rw [hto, hto]
    cases m with
    | nil => rfl
    | cons b m =>
      have ha := hl (a.ev ρ) (List.mem_cons_self ..)
      have hb := hm (b.ev ρ) (List.mem_cons_self ..)
      have ih' := ih (m := m) (fun x hx => hl x (List.mem_cons_of_mem _ hx)) (fun x hx => hm x (List.mem_cons_of_mem _ hx))
      rw [hto, hto] at ih'
      have hab : (UInt8.ofNat (a.ev ρ).toNat == UInt8.ofNat (b.ev ρ).toNat) = decide (a.ev ρ = b.ev ρ) := by
        by_cases he : a.ev ρ = b.ev ρ
        · simp [he]
        · simp only [he, decide_false, beq_eq_false_iff_ne, ne_eq]
          intro h
          have h2 := congrArg UInt8.toNat h
          simp only [UInt8.toNat_ofNat'] at h2
          rw [Nat.mod_eq_of_lt (by omega), Nat.mod_eq_of_lt (by omega)] at h2
          omega
      simp only [E.evs, List.map_cons, List.cons_beq_cons, hab, ih', eqBytes, mk_ev, BOp.ev]
      by_cases he : a.ev ρ = b.ev ρ <;> by_cases hz : (eqBytes l m).ev ρ = 0 <;> simp [he, hz]
theorem binS_run {op : BinOp} {t : TypeId} {x y r : SV} (hx : x.ok ρ n) (hy : y.ok ρ n) (h : binS P op t x y = some r) (w : World) :
    (binOp op t (x.ev ρ β) (y.ev ρ β)).run P w = .ok (r.ev ρ β) w ∧ r.ok ρ n := by
  unfold binS at h
  split at h
  · split at h
    · rename_i k a j b hn
      obtain rfl := Option.some.inj h
      have := notNeg_spec hy hn
      refine ⟨?_, by simp only [SV.ok, mk_ev]; exact wf_of_wrap _ _⟩
      simp only [SV.ev, binOp, Op.shift, mk_ev, BOp.ev]
      rw [if_neg (by omega)]
      rfl
    · cases h
  · split at h
    · rename_i k a j b hn
      obtain rfl := Option.some.inj h
      have := notNeg_spec hy hn
      refine ⟨?_, by simp only [SV.ok, mk_ev]; exact wf_shr _ _ _ hx⟩
      simp only [SV.ev, binOp, Op.shift, mk_ev, BOp.ev]
      rw [if_neg (by omega)]
      rfl
    · cases h
  · split at h
    · rename_i hk
      obtain rfl := kTag_inj hk
      exact intS_run hx hy h t w
    · cases h
  · rename_i l m _
    obtain rfl := Option.some.inj h
    refine ⟨?_, trivial⟩
    simp only [SV.ev, binOp, Op.stringOp, Sem.run_pure]
    rw [bytesV_eq hx hy]
  · rename_i hne hstr
    cases he : eqS P 8 t x y with
    | none => simp [he] at h
    | some e =>
      simp only [he, Option.map_some, Option.some.injEq] at h
      subst h
      have q := eqS_run (β := β) 8 9992 t x y e hx hy he w
      refine ⟨?_, trivial⟩
      have hb : binOp .eql t (x.ev ρ β) (y.ev ρ β) = (do pure (.bool (← Op.equal t (x.ev ρ β) (y.ev ρ β)))) := by
        unfold eqS at he
        split at he <;> first
          | rfl
          | (cases he; done)
          | (exact (hne _ _ _ _ rfl rfl).elim)
          | skip
        all_goals first | (simp only [SV.ev]; rfl) | skip
      rw [hb]
      simp only [Sem.run_bind, Op.equal, Op.maxDepth, q, Result.andThen_ok, Sem.run_pure, SV.ev]
  · rename_i hne
    cases he : eqS P 8 t x y with
    | none => simp [he] at h
    | some e =>
      simp only [he, Option.map_some, Option.some.injEq] at h
      subst h
      have q := eqS_run (β := β) 8 9992 t x y e hx hy he w
      refine ⟨?_, trivial⟩
      have hb : binOp .neq t (x.ev ρ β) (y.ev ρ β) = (do pure (.bool (!(← Op.equal t (x.ev ρ β) (y.ev ρ β))))) := by
        unfold eqS at he
        split at he <;> first
          | rfl
          | (cases he; done)
          | (exact (hne _ _ _ _ rfl rfl).elim)
          | skip
        all_goals first | (simp only [SV.ev]; rfl) | skip
      rw [hb]
      simp only [Sem.run_bind, Op.equal, Op.maxDepth, q, Result.andThen_ok, Sem.run_pure, SV.ev, neg_bool]
  · cases h
theorem unS_run {op : UnOp} {s r : SV} (h : unS op s = some r) (w : World) : (Op.unary op (s.ev ρ β)).run P w = .ok (r.ev ρ β) w ∧ r.ok ρ n := by
  unfold unS at h
  split at h
  · obtain rfl := Option.some.inj h
    exact ⟨by simp [SV.ev, Op.unary, Op.intArith, mk_ev, BOp.ev, E.ev], by simp only [SV.ok, mk_ev]; exact wf_of_wrap _ _⟩
  · obtain rfl := Option.some.inj h
    exact ⟨by simp [SV.ev, Op.unary, Op.intBits, mk_ev, BOp.ev, E.ev], by simp only [SV.ok, mk_ev]; exact wf_of_wrap _ _⟩
  · obtain rfl := Option.some.inj h
    exact ⟨by simp only [SV.ev, Op.unary, neg_bool, Sem.run_pure], trivial⟩
  · cases h
theorem convS_run {src dst : TypeId} {s r : SV} (h : convS P src dst s = some r) (w : World) : (convert src dst (s.ev ρ β)).run P w = .ok (r.ev ρ β) w ∧ r.ok ρ n := by
  unfold convS at h
  split at h
  · rename_i d k k' e hs hd
    obtain rfl := Option.some.inj h
    refine ⟨?_, by simp only [SV.ok, mk_ev]; exact wf_of_wrap _ _⟩
    simp [convert, run_underlying hs w, run_underlying hd w, SV.ev, Conv.intToInt, mk_ev, BOp.ev]
  · cases h
end
end Go.Proofs.YtfcpmapfhgibpaaDoor.SX
namespace Go.Proofs.YtfcpmapfhgibpaaDoor.SX
open Go
set_option linter.unusedVariables false
set_option linter.unusedSimpArgs false

/-- A value of one cell. -/
def SV.one : SV → Bool
  | .raw v => v.oneCell'
  | .agg _ | .tuple _ => false
  | _ => true
def SV.cells? : SV → Option (List SV)
  | .agg l => some l
  | s => if s.one then some [s] else none
theorem SV.one_ev (ρ : Env) (β : Bm) {s : SV} (h : s.one = true) : (s.ev ρ β).oneCell' = true := by
  cases s <;> first | rfl | (simp [SV.one] at h; done) | exact h
theorem SV.cells_spec {s : SV} {l : List SV} (h : s.cells? = some l) (ρ : Env) (β : Bm) : (s.ev ρ β).cells = (SV.evs ρ β l).toArray ∧ ∀ n, s.ok ρ n → SV.oks ρ n l := by
  unfold SV.cells? at h
  split at h
  · obtain rfl := Option.some.inj h
    exact ⟨rfl, fun n hn => hn⟩
  · split at h
    · rename_i ho
      obtain rfl := Option.some.inj h
      refine ⟨?_, fun n hn => ⟨hn, trivial⟩⟩
      have := SV.one_ev ρ β ho
      simp only [SV.evs]
      generalize s.ev ρ β = v at *
      cases v <;> first | rfl | (simp [Value.oneCell'] at this; done)
    · cases h

/-- Cells with others laid over them from off on. -/
def splice (l m : List SV) (off : Nat) : List SV := l.take off ++ m ++ l.drop (off + m.length)
def spliceV (l m : List Value) (off : Nat) : List Value := l.take off ++ m ++ l.drop (off + m.length)
theorem evs_splice (ρ : Env) (β : Bm) (l m : List SV) (off : Nat) : SV.evs ρ β (splice l m off) = spliceV (SV.evs ρ β l) (SV.evs ρ β m) off := by
  simp [splice, spliceV, SV.evs_map, List.map_take, List.map_drop]
theorem oks_splice {ρ : Env} {n : Nat} {l m : List SV} (hl : SV.oks ρ n l) (hm : SV.oks ρ n m) (off : Nat) : SV.oks ρ n (splice l m off) := by
  rw [SV.oks_mem] at *
  intro s hs
  rcases List.mem_append.1 hs with h | h
  · rcases List.mem_append.1 h with h | h
    · exact hl s (List.mem_of_mem_take h)
    · exact hm s h
  · exact hl s (List.mem_of_mem_drop h)
theorem length_splice {l m : List SV} {off : Nat} (h : off + m.length ≤ l.length) : (splice l m off).length = l.length := by
  simp [splice]; omega
theorem spliceV_cons (l : List Value) (v : Value) (m : List Value) (off : Nat) (h : off + (v :: m).length ≤ l.length) : spliceV l (v :: m) off = spliceV (l.set off v) m (off + 1) := by
  have h1 : off < l.length := by simp at h; omega
  unfold spliceV
  apply List.ext_getElem?
  intro i
  simp only [List.length_cons, List.getElem?_append, List.length_append, List.length_take, List.length_set, List.getElem?_take, List.getElem?_set, List.getElem?_drop]
  simp only [List.length_cons] at h
  rw [show min off l.length = off by omega, show min (off + 1) l.length = off + 1 by omega]
  by_cases c1 : i < off
  · simp [c1, show i < off + (m.length + 1) by omega, show i < off + 1 + m.length by omega, show i < off + 1 by omega, show off ≠ i by omega]
  · by_cases c2 : i = off
    · subst c2
      simp [h1, show i < i + (m.length + 1) by omega, show i < i + 1 + m.length by omega]
    · by_cases c3 : i < off + 1 + m.length
      · simp [c1, c3, show i < off + (m.length + 1) by omega, show ¬ i < off + 1 by omega, show i - off = (i - (off + 1)) + 1 by omega]
      · simp [c1, c3, show ¬ i < off + (m.length + 1) by omega]
        rw [if_neg (by omega)]
        congr 1
        omega
theorem foldl_splice (off : Nat) : ∀ (m : List Value) (k : Nat) (a : Array Value), off + k + m.length ≤ a.size →
    ((m.zipIdx k).foldl (fun cs (p : Value × Nat) => cs.setIfInBounds (off + p.2) p.1) a) = (spliceV a.toList m (off + k)).toArray
  | [], k, a, h => by simp [spliceV]
  | v :: m, k, a, h => by
    simp only [List.zipIdx_cons, List.foldl_cons]
    rw [foldl_splice off m (k + 1) _ (by simp at h ⊢; omega)]
    rw [spliceV_cons _ _ _ _ (by simpa using h)]
    simp [Nat.add_assoc]

def fillS (place : Nat → Option (Nat × Nat)) : List SV → List (Nat × SV) → Option (List SV)
  | cells, [] => some cells
  | cells, (i, s) :: rest =>
    match place i, s.cells? with
    | some (off, size), some cs => if cs.length = size ∧ off + size ≤ cells.length then fillS place (splice cells cs off) rest else none
    | _, _ => none
theorem fillS_spec {place : Nat → Option (Nat × Nat)} {ρ : Env} {β : Bm} {n : Nat} : ∀ {parts : List (Nat × SV)} {cells r : List SV}, SV.oks ρ n cells → (∀ p ∈ parts, p.2.ok ρ n) → fillS place cells parts = some r →
    Instr.fill place (SV.evs ρ β cells).toArray (parts.map fun p => (p.1, p.2.ev ρ β)) = some (SV.evs ρ β r).toArray ∧ SV.oks ρ n r ∧ r.length = cells.length
  | [], cells, r, hc, _, h => by
    obtain rfl := Option.some.inj h
    exact ⟨rfl, hc, rfl⟩
  | (i, s) :: rest, cells, r, hc, hp, h => by
    unfold fillS at h
    split at h
    · rename_i off size cs hpl hcs
      split at h
      · rename_i hle
        obtain ⟨rfl, hle⟩ := hle
        obtain ⟨h1, h2⟩ := SV.cells_spec hcs ρ β
        have hcs' := h2 n (hp _ (List.mem_cons_self ..))
        obtain ⟨q1, q2, q3⟩ := fillS_spec (oks_splice hc hcs' off) (fun p hp' => hp p (List.mem_cons_of_mem _ hp')) h
        refine ⟨?_, q2, q3.trans (length_splice hle)⟩
        simp only [List.map_cons, Instr.fill, hpl, h1]
        have hs1 : (SV.evs ρ β cs).toArray.size = cs.length := by rw [SV.evs_map]; simp
        have hs2 : (SV.evs ρ β cells).toArray.size = cells.length := by rw [SV.evs_map]; simp
        rw [if_neg (by rw [hs1, hs2]; simp; omega)]
        rw [← q1, evs_splice]
        congr 1
        have := foldl_splice off (SV.evs ρ β cs) 0 (SV.evs ρ β cells).toArray (by rw [hs2, SV.evs_map]; simp; omega)
        rw [show ((SV.evs ρ β cs).toArray.zipIdx) = ((SV.evs ρ β cs).zipIdx 0).toArray by simp]
        rw [List.foldl_toArray]
        exact this
      · cases h
    · cases h
section
variable (P : Program)
def placesS : List Field → Option (List (Nat × Nat))
  | [] => some []
  | f :: fs => match szOf P f.type, placesS fs with
    | some z, some r => some ((f.offset, z) :: r)
    | _, _ => none
def zeroS (t : TypeId) : Option (List SV) :=
  match P.info? t with
  | some i => match i.zero with
    | some z => (ofValue z).cells?
    | none => none
  | none => none
def buildS (t : TypeId) (parts : List (Nat × SV)) : Option SV :=
  match P.underlying t, zeroS P t with
  | some (.struct fs), some z => match placesS P fs.toList with
    | some ps => (fillS (ps[·]?) z parts).map .agg
    | none => none
  | some (.array _ e), some z => match szOf P e with
    | some n => (fillS (fun i => some (i * n, n)) z parts).map .agg
    | none => none
  | _, _ => none
def boundS (s : Option SV) (d y : Nat) : Option Nat :=
  match s with
  | none => some d
  | some s => match natLit s with
    | some n => if n ≤ y then some n else none
    | none => none
def sliceS (t : TypeId) (x : SV) (lo hi mx : Option SV) : Option SV :=
  match mx with
  | some _ => none
  | none =>
    match P.underlying t, x with
    | some (.slice e), .slice b off len (some cap) => match boundS hi len cap, szOf P e with
      | some h, some z => match boundS lo 0 h with
        | some l => some (.slice b (if cap = l then off else off + l * z) (h - l) (some (cap - l)))
        | none => none
      | _, _ => none
    | some (.slice e), .raw (.slice none 0 0) => match boundS hi 0 0, szOf P e with
      | some h, some _ => match boundS lo 0 h with
        | some _ => some (.raw (.slice none 0 0))
        | none => none
      | _, _ => none
    | some (.array n e), .ptr b off => match boundS hi n n, szOf P e with
      | some h, some z => match boundS lo 0 h with
        | some l => some (.slice b (if n = l then off else off + l * z) (h - l) (some (n - l)))
        | none => none
      | _, _ => none
    | _, _ => none
def intLit (n : Nat) : Option SV := if inRange .i64 n then some (.int .i64 (.lit n)) else none
def builtinS (b : Builtin) (ts : Array TypeId) (args : List SV) : Option SV :=
  match b, args with
  | .len, [x] => match ts[0]? with
    | some t => match P.underlying t, x with
      | some (.slice _), .slice _ _ len _ => intLit len
      | some (.slice _), .raw (.slice _ len _) => intLit len
      | some (.array n _), _ => intLit n
      | _, _ => none
    | none => none
  | .cap, [x] => match ts[0]? with
    | some t => match P.underlying t, x with
      | some (.slice _), .slice _ _ _ (some c) => intLit c
      | _, _ => none
    | none => none
  | .min, [.int k a, .int j b] => if kTag k = kTag j then some (.int k (mk .min k a b)) else none
  | .max, [.int k a, .int j b] => if kTag k = kTag j then some (.int k (mk .max k a b)) else none
  | _, _ => none
end
section
variable {P : Program} {ρ : Env} {β : Bm} {w : World} {n : Nat}
theorem placesS_spec : ∀ {fs : List Field} {ps : List (Nat × Nat)}, placesS P fs = some ps → fs.mapM (fun f => (P.info? f.type).map fun i => (f.offset, i.size)) = some ps
  | [], ps, h => by obtain rfl := Option.some.inj h; rfl
  | f :: fs, ps, h => by
    unfold placesS at h
    split at h
    · rename_i z r hz hr
      obtain rfl := Option.some.inj h
      have := placesS_spec hr
      unfold szOf at hz
      cases hi : P.info? f.type with
      | none => simp [hi] at hz
      | some i => simp [hi] at hz; subst hz; simp [List.mapM_cons, hi, this]
    · cases h
theorem zeroS_spec {t : TypeId} {z : List SV} (h : zeroS P t = some z) : (∃ (i : TypeInfo) (v : Value), P.info? t = some i ∧ i.zero = some v ∧ ∀ ρ β, v.cells = (SV.evs ρ β z).toArray) ∧ ∀ ρ n, SV.oks ρ n z := by
  unfold zeroS at h
  split at h
  · rename_i i hi
    split at h
    · rename_i v hv
      refine ⟨⟨i, v, hi, hv, fun ρ β => ?_⟩, fun ρ n => ?_⟩
      · have := (SV.cells_spec h ρ β).1
        rwa [ofValue_ev] at this
      · exact (SV.cells_spec h ρ (fun _ => (0, 0))).2 n (ofValue_ok ρ n v)
    · cases h
  · cases h
theorem buildS_run {t : TypeId} {parts : Array (Nat × SV)} {r : SV} (hp : ∀ p ∈ parts.toList, p.2.ok ρ n) (h : buildS P t parts.toList = some r) (w : World) :
    (Instr.build t (parts.map fun p => (p.1, p.2.ev ρ β))).run P w = .ok (r.ev ρ β) w ∧ r.ok ρ n := by
  unfold buildS at h
  split at h
  · rename_i fs z hu hz
    obtain ⟨⟨i, v, hi, hv, hc⟩, hok⟩ := zeroS_spec hz
    split at h
    · rename_i ps hps
      cases hf : fillS (ps[·]?) z parts.toList with
      | none => simp [hf] at h
      | some q =>
        simp only [hf, Option.map_some, Option.some.injEq] at h
        subst h
        obtain ⟨h1, h2, _⟩ := fillS_spec (β := β) (hok ρ n) hp hf
        refine ⟨?_, h2⟩
        refine run_build w t _ _ ?_
        unfold Program.built
        simp only [hi, hu, hv, placesS_spec hps, hc ρ β]
        simpa using h1
    · cases h
  · rename_i k e z hu hz
    obtain ⟨⟨i, v, hi, hv, hc⟩, hok⟩ := zeroS_spec hz
    split at h
    · rename_i m hm
      cases hf : fillS (fun i => some (i * m, m)) z parts.toList with
      | none => simp [hf] at h
      | some q =>
        simp only [hf, Option.map_some, Option.some.injEq] at h
        subst h
        obtain ⟨h1, h2, _⟩ := fillS_spec (β := β) (hok ρ n) hp hf
        refine ⟨?_, h2⟩
        refine run_build w t _ _ ?_
        unfold szOf at hm
        cases hie : P.info? e with
        | none => simp [hie] at hm
        | some ie =>
          simp [hie] at hm
          unfold Program.built
          simp only [hi, hu, hv, hie, hc ρ β, hm]
          simpa using h1
    · cases h
  · cases h
end
end Go.Proofs.YtfcpmapfhgibpaaDoor.SX
namespace Go.Proofs.YtfcpmapfhgibpaaDoor.SX
open Go
set_option linter.unusedVariables false
set_option linter.unusedSimpArgs false

section
variable {P : Program} {ρ : Env} {β : Bm} {w : World} {n : Nat}
theorem boundS_some {s : SV} {d y m : Nat} (h : boundS (some s) d y = some m) : (∃ k, s = .int k (.lit (m : Int))) ∧ m ≤ y := by
  unfold boundS at h
  simp only at h
  split at h
  · rename_i q hq
    split at h
    · rename_i hle
      obtain rfl := Option.some.inj h
      exact ⟨natLit_spec hq, hle⟩
    · cases h
  · cases h
theorem run_bound {s : SV} {d y m : Nat} (h : boundS (some s) d y = some m) (code : BoundsCode) (w : World) : (Instr.sliceBound (s.ev ρ β) y code).run P w = .ok m w := by
  obtain ⟨⟨k, rfl⟩, hle⟩ := boundS_some h
  simp [Instr.sliceBound, SV.ev, E.ev, asIntOf, hle]
theorem run_bounds {lo hi : Option SV} {isSlice : Bool} {len cap h l : Nat} (hh : boundS hi len cap = some h) (hl : boundS lo 0 h = some l) (w : World) :
    (Instr.sliceBounds isSlice len cap (lo.map (SV.ev ρ β)) (hi.map (SV.ev ρ β)) none).run P w = .ok (l, h, cap) w := by
  cases hi with
  | none =>
    obtain rfl := Option.some.inj hh
    cases lo with
    | none => obtain rfl := Option.some.inj hl; simp [Instr.sliceBounds]
    | some s => simp [Instr.sliceBounds, run_bound (P := P) (ρ := ρ) (β := β) hl _ w]
  | some s' =>
    cases lo with
    | none => obtain rfl := Option.some.inj hl; simp [Instr.sliceBounds, run_bound (P := P) (ρ := ρ) (β := β) hh _ w]
    | some s => simp [Instr.sliceBounds, run_bound (P := P) (ρ := ρ) (β := β) hh _ w, run_bound (P := P) (ρ := ρ) (β := β) hl _ w]
theorem sliceS_run {t : TypeId} {x r : SV} {lo hi mx : Option SV} (hx : x.ok ρ n) (h : sliceS P t x lo hi mx = some r) (w : World) :
    (Instr.sliceAt t (x.ev ρ β) (lo.map (SV.ev ρ β)) (hi.map (SV.ev ρ β)) (mx.map (SV.ev ρ β))).run P w = .ok (r.ev ρ β) w ∧ r.ok ρ n := by
  unfold sliceS at h
  split at h
  · cases h
  · split at h
    · rename_i e b off len cap hu
      split at h
      · rename_i h' z hh hz
        split at h
        · rename_i l hl
          obtain rfl := Option.some.inj h
          refine ⟨?_, hx⟩
          have hb := run_bounds (P := P) (ρ := ρ) (β := β) (isSlice := true) hh hl w
          simp only [Instr.sliceAt, Instr.slice, Sem.run_bind, run_underlying hu w, Result.andThen_ok, SV.ev, Option.getD_some, Option.map_none, hb, szOf_run hz w, Sem.run_pure]
          split <;> simp [add_lit]
        · cases h
      · cases h
    · rename_i e hu
      split at h
      · rename_i h' z hh hz
        split at h
        · rename_i l hl
          obtain rfl := Option.some.inj h
          refine ⟨?_, trivial⟩
          have hb := run_bounds (P := P) (ρ := ρ) (β := β) (isSlice := true) hh hl w
          have hh0 : h' = 0 := by
            cases hi with
            | none => exact (Option.some.inj hh).symm
            | some s => have := (boundS_some hh).2; omega
          have hl0 : l = 0 := by
            cases lo with
            | none => exact (Option.some.inj hl).symm
            | some s => have := (boundS_some hl).2; omega
          subst hh0 hl0
          simp only [Instr.sliceAt, Instr.slice, Sem.run_bind, run_underlying hu w, Result.andThen_ok, SV.ev, Option.getD_some, Option.map_none, hb, szOf_run hz w, Sem.run_pure]
          rfl
        · cases h
      · cases h
    · rename_i k e b off hu
      split at h
      · rename_i h' z hh hz
        split at h
        · rename_i l hl
          obtain rfl := Option.some.inj h
          refine ⟨?_, hx⟩
          have hb := run_bounds (P := P) (ρ := ρ) (β := β) (isSlice := false) hh hl w
          simp only [Instr.sliceAt, Instr.sureAddr, Sem.run_bind, run_underlying hu w, Result.andThen_ok, SV.ev, Option.getD_some, Option.map_none, hb, szOf_run hz w, Sem.run_pure]
          split <;> simp [add_lit]
        · cases h
      · cases h
    · cases h
theorem intLit_spec {m : Nat} {r : SV} (h : intLit m = some r) : r.ev ρ β = .int .i64 m ∧ r.ok ρ n := by
  unfold intLit at h
  split at h
  · rename_i hr
    obtain rfl := Option.some.inj h
    exact ⟨rfl, hr⟩
  · cases h
theorem builtinS_run {b : Builtin} {ts : Array TypeId} {args : List SV} {r : SV} (ha : SV.oks ρ n args) (h : builtinS P b ts args = some r) (ty : TypeId) (cs : Array Bool) (w : World) :
    (builtin b ts ty cs (SV.evs ρ β args).toArray).run P w = .ok (.value (r.ev ρ β)) w ∧ r.ok ρ n := by
  unfold builtinS at h
  split at h
  · rename_i x
    split at h
    · rename_i t ht
      split at h
      · rename_i e b' o l c hu
        obtain ⟨h1, h2⟩ := intLit_spec (ρ := ρ) (β := β) (n := n) h
        refine ⟨?_, h2⟩
        simp [builtin, Builtin.len_, ht, SV.evs, run_underlying hu w, SV.ev, goInt, h1]
      · rename_i e b' l c hu
        obtain ⟨h1, h2⟩ := intLit_spec (ρ := ρ) (β := β) (n := n) h
        refine ⟨?_, h2⟩
        simp [builtin, Builtin.len_, ht, SV.evs, run_underlying hu w, SV.ev, goInt, h1]
      · rename_i k e hu
        obtain ⟨h1, h2⟩ := intLit_spec (ρ := ρ) (β := β) (n := n) h
        refine ⟨?_, h2⟩
        simp [builtin, Builtin.len_, ht, SV.evs, run_underlying hu w, SV.ev, goInt, h1]
      · cases h
    · cases h
  · rename_i x
    split at h
    · rename_i t ht
      split at h
      · rename_i e b' o l c hu
        obtain ⟨h1, h2⟩ := intLit_spec (ρ := ρ) (β := β) (n := n) h
        refine ⟨?_, h2⟩
        simp [builtin, Builtin.cap_, ht, SV.evs, run_underlying hu w, SV.ev, goInt, h1]
      · cases h
    · cases h
  · rename_i k a j b
    split at h
    · rename_i hk
      obtain rfl := kTag_inj hk
      obtain rfl := Option.some.inj h
      obtain ⟨h1, h2, _⟩ := ha
      refine ⟨?_, ?_⟩
      · simp [builtin, Builtin.min_, Builtin.min2, SV.evs, SV.ev, mk_ev, BOp.ev]
      · simp only [SV.ok, mk_ev, BOp.ev]; split <;> assumption
    · cases h
  · rename_i k a j b
    split at h
    · rename_i hk
      obtain rfl := kTag_inj hk
      obtain rfl := Option.some.inj h
      obtain ⟨h1, h2, _⟩ := ha
      refine ⟨?_, ?_⟩
      · simp [builtin, Builtin.max_, Builtin.max2, SV.evs, SV.ev, mk_ev, BOp.ev]
      · simp only [SV.ok, mk_ev, BOp.ev]; split <;> assumption
    · cases h
  · cases h
end

def eqGuardOK (P : Program) (t : TypeId) (x y : SV) : Bool :=
  match x, y with
  | .agg _, .agg _ => !P.eqGuardType P.depth t
  | .raw .nilIface, _ => false
  | .raw (.agg _), _ => false
  | _, .raw (.agg _) => false
  | _, _ => true
theorem eqGuardOK_run {P : Program} {ρ : Env} {β : Bm} {t : TypeId} {x y : SV} (h : eqGuardOK P t x y = true) (op : BinOp) (X Y : Operand) (w : World) : (eqGuard op t X Y (x.ev ρ β) (y.ev ρ β)).run P w = .ok () w := by
  unfold eqGuardOK at h
  split at h
  · exact run_eqGuard_agg w op t X Y _ _ (by simpa using h)
  · cases h
  · cases h
  · cases h
  · rename_i h1 h2 h3 h4
    cases x with
    | raw v => cases v <;> first | (exact (h1 rfl).elim) | (exact (h2 _ rfl).elim) | (cases op <;> simp [eqGuard, SV.ev]; done)
    | agg l => cases y with
      | raw v => cases v <;> first | (exact (h3 _ rfl).elim) | (cases op <;> simp [eqGuard, SV.ev])
      | agg m => exact (h4 _ _ rfl rfl).elim
      | _ => cases op <;> simp [eqGuard, SV.ev]
    | _ => cases op <;> simp [eqGuard, SV.ev]

def byteEs : List SV → Option (List E)
  | [] => some []
  | .int .u8 e :: l => (byteEs l).map fun es => e :: es
  | _ => none
/-- []byte as a string. -/
def convStrS (P : Program) (hp : Hp) (src dst : TypeId) (s : SV) : Option SV :=
  match P.underlying src, P.underlying dst with
  | some (.slice e), some .string => match P.underlying e with
    | some (.int .u8) => match s with
      | .raw (.slice none _ _) => some (.str [])
      | .slice b off len _ => match cellsAt hp b with
        | some c => if off + len ≤ c.length then (byteEs ((c.drop off).take len)).map .str else none
        | none => none
      | _ => none
    | _ => none
  | _, _ => none
theorem byteEs_spec {ρ : Env} {β : Bm} {n : Nat} : ∀ {l : List SV} {es : List E}, SV.oks ρ n l → byteEs l = some es → SV.evs ρ β l = (E.evs ρ es).map (.int .u8) ∧ (∀ x ∈ E.evs ρ es, 0 ≤ x ∧ x < 256) ∧ es.length = l.length
  | [], es, _, h => by obtain rfl := Option.some.inj h; exact ⟨rfl, (fun x hx => by cases hx), rfl⟩
  | s :: l, es, hk, h => by
    cases s with
    | int k e =>
      cases k <;> simp only [byteEs, reduceCtorEq] at h
      cases he : byteEs l with
      | none => simp [he] at h
      | some es' =>
        simp only [he, Option.map_some, Option.some.injEq] at h
        subst h
        obtain ⟨a1, a2, a3⟩ := byteEs_spec (β := β) hk.2 he
        refine ⟨by simp [SV.evs, E.evs, SV.ev, a1], fun x hx => ?_, by simp [a3]⟩
        rcases List.mem_cons.1 hx with rfl | hx
        · have := (wf_iff .u8 _).1 hk.1
          simp [IntKind.min, IntKind.max, IntKind.bits, IntKind.signed] at this
          omega
        · exact a2 x hx
    | _ => cases h
theorem bytes_loop (P : Program) (w : World) (f : Value → ByteArray → Sem (ForInStep ByteArray)) (hf : ∀ (n : Int) (r : ByteArray), f (.int .u8 n) r = pure (ForInStep.yield (r.push (UInt8.ofNat n.toNat)))) :
    ∀ (l : List Int) (acc : ByteArray), (forIn (l.map (Value.int .u8)) acc f).run P w = .ok ⟨acc.data ++ (l.map fun n => UInt8.ofNat n.toNat).toArray⟩ w
  | [], acc => by simp
  | n :: l, acc => by
    simp only [List.map_cons, List.forIn_cons, hf, Sem.run_bind, Sem.run_pure, Result.andThen_ok]
    rw [bytes_loop P w f hf l]
    congr 2
    apply Array.ext'
    simp [ByteArray.push]
theorem convStrS_run {P : Program} {ρ : Env} {β : Bm} {n : Nat} {hp : Hp} {w : World} {src dst : TypeId} {s r : SV} (hs : Sees ρ β n hp w) (h : convStrS P hp src dst s = some r) : (convert src dst (s.ev ρ β)).run P w = .ok (r.ev ρ β) w ∧ r.ok ρ n := by
  unfold convStrS at h
  split at h
  · rename_i e hsrc hdst
    split at h
    · rename_i he
      split at h
      · rename_i l c
        obtain rfl := Option.some.inj h
        refine ⟨?_, (fun x hx => by cases hx)⟩
        simp [convert, run_underlying hsrc w, run_underlying hdst w, run_underlying he w, SV.ev, Conv.bytesToString, bytesV, E.evs]
        rfl
      · rename_i b off len cap
        split at h
        · rename_i c hc
          split at h
          · rename_i hle
            obtain ⟨hcell, hgood⟩ := cellsAt_spec hs hc
            cases hb : byteEs ((c.drop off).take len) with
            | none => simp [hb] at h
            | some es =>
              simp only [hb, Option.map_some, Option.some.injEq] at h
              subst h
              obtain ⟨a1, a2, a3⟩ := byteEs_spec (β := β) (oks_part hgood off len) hb
              refine ⟨?_, a2⟩
              have hlen : (SV.evs ρ β ((c.drop off).take len)).length = len := by rw [SV.evs_map]; simp; omega
              have hl : (loadCells ⟨(β b).1, off, none⟩ (SV.evs ρ β ((c.drop off).take len)).length).run P w = .ok (SV.evs ρ β ((c.drop off).take len)).toArray w :=
                run_loadCells_list w _ _ fun j v hv => by
                  rw [add_lit]
                  refine hcell _ v ?_
                  rw [SV.evs_map, List.getElem?_map, List.getElem?_take] at hv
                  split at hv
                  · rw [List.getElem?_drop] at hv
                    rw [SV.evs_map, List.getElem?_map]
                    exact hv
                  · cases hv
              rw [hlen, a1] at hl
              simp only [convert, Sem.run_bind, run_underlying hsrc w, run_underlying hdst w, Result.andThen_ok, SV.ev, run_underlying he w, Conv.bytesToString, hl]
              rw [← Array.forIn_toList, bytes_loop P w _ (fun _ _ => rfl) (E.evs ρ es) .empty]
              simp only [Result.andThen_ok, Sem.run_pure, bytesV]
              congr 3
              apply Array.ext'
              simp
          · cases h
        · cases h
      · cases h
    · cases h
  · cases h

/-- What a pure operation yields, out of its operands. -/
def pureS (P : Program) (hp : Hp) (g : Operand → SV) (o : Oper) : Option SV :=
  match o.op with
  | .move x => some (g x)
  | .assign x => some (g x)
  | .load t a => loadS P hp t (g a)
  | .binOp op t x y _ => if eqGuardOK P t (g x) (g y) then binS P op t (g x) (g y) else none
  | .unOp op _ x => unS op (g x)
  | .convert s d x => match convS P s d (g x) with
    | some r => some r
    | none => convStrS P hp s d (g x)
  | .fieldAddr t x f => faddrS P t (g x) f
  | .field t x f => fieldS P t (g x) f
  | .indexAddr t x i => iaddrS P t (g x) (g i)
  | .index t x i => indexS P t (g x) (g i)
  | .extract x i => match g x with
    | .tuple l => l[i]?
    | _ => none
  | .makeFunc (.func f) a b => some (.func f (a.toList.map g) (b.toList.map g))
  | .nilCheck x => match g x with
    | .ptr b off => some (.ptr b off)
    | .func f a b => some (.func f a b)
    | _ => none
  | .build t ps => buildS P t (ps.toList.map fun p => (p.1, g p.2))
  | .slice t x lo hi mx => sliceS P t (g x) (lo.map g) (hi.map g) (mx.map g)
  | .call { callee := .builtin b, args := as, argTypes := ts } => builtinS P b ts (as.toList.map g)
  | .pick c a b => match g c with
    | .bool (.lit m) => some (if m = 0 then g b else g a)
    | _ => none
  | _ => none

section
variable {P : Program} {ρ : Env} {β : Bm} {w : World} {n : Nat}
theorem list_map_ev {g : Operand → SV} {a : Act} (hg : ∀ x, (g x).ev ρ β = a.eval x) (l : Array Operand) : SV.evs ρ β (l.toList.map g) = (l.map a.eval).toList := by
  rw [SV.evs_map, List.map_map]
  simp only [Array.toList_map]
  exact List.map_congr_left fun x _ => hg x
theorem list_map_ok {g : Operand → SV} (hg : ∀ x, (g x).ok ρ n) (l : List Operand) : SV.oks ρ n (l.map g) := by
  rw [SV.oks_mem]
  intro s hs
  obtain ⟨x, _, rfl⟩ := List.mem_map.1 hs
  exact hg x
set_option maxHeartbeats 1000000 in
theorem pureS_run {hp : Hp} {g : Operand → SV} {o : Oper} {r : SV} {a : Act} (hg : ∀ x, (g x).ev ρ β = a.eval x) (hk : ∀ x, (g x).ok ρ n) (hs : Sees ρ β n hp w) (h : pureS P hp g o = some r) :
    (execOp a.eval o).run P w = .ok (.value (r.ev ρ β)) w ∧ r.ok ρ n := by
  obtain ⟨dst, op, type, pos, after, guard⟩ := o
  cases op <;> simp only [pureS, reduceCtorEq] at h
  case move x => obtain rfl := Option.some.inj h; exact ⟨by simp [execOp, hg], hk x⟩
  case assign x => obtain rfl := Option.some.inj h; exact ⟨by simp [execOp, hg], hk x⟩
  case pick c x y =>
    split at h
    · rename_i m hm
      obtain rfl := Option.some.inj h
      have hc := hg c
      rw [hm] at hc
      refine ⟨?_, by split <;> exact hk _⟩
      simp only [execOp, ← hc, SV.ev, E.ev, asBool, Sem.run_bind, Sem.run_pure, Result.andThen_ok]
      by_cases h0 : m = 0 <;> simp [h0, hg]
    · cases h
  case build t ps =>
    have := buildS_run (β := β) (n := n) (ρ := ρ) (parts := ps.map fun p => (p.1, g p.2)) (by
      intro p hp'
      simp only [Array.toList_map, List.mem_map] at hp'
      obtain ⟨q, _, rfl⟩ := hp'
      exact hk _) (by simpa using h) w
    refine ⟨?_, this.2⟩
    have h1 := this.1
    simp only [Array.map_map] at h1
    have he : ((fun p : Nat × SV => (p.1, SV.ev ρ β p.2)) ∘ fun p : Nat × Operand => (p.1, g p.2)) = fun p => (p.1, a.eval p.2) := funext fun p => by simp [hg]
    rw [he] at h1
    simp only [execOp, Sem.run_bind]
    rw [show (fun x : Nat × Operand => match x with | (i, x) => (i, a.eval x)) = fun p => (p.1, a.eval p.2) from rfl, h1]
    rfl
  case load t x =>
    have := loadS_run hs h
    rw [hg] at this
    exact ⟨by simp only [execOp, Sem.run_bind, this.1, Result.andThen_ok, Sem.run_pure], this.2⟩
  case nilCheck x =>
    split at h
    · rename_i b off hx
      obtain rfl := Option.some.inj h
      have := hg x
      rw [hx] at this
      exact ⟨by simp only [execOp, ← this, SV.ev, Sem.run_pure], by have := hk x; rwa [hx] at this⟩
    · rename_i f u v hx
      obtain rfl := Option.some.inj h
      have := hg x
      rw [hx] at this
      exact ⟨by simp only [execOp, ← this, SV.ev, Sem.run_pure], by have := hk x; rwa [hx] at this⟩
    · cases h
  case binOp op t x y yt =>
    split at h
    · rename_i hgd
      have := binS_run (β := β) (hk x) (hk y) h w
      have h2 := eqGuardOK_run (ρ := ρ) (β := β) hgd op x y w
      rw [hg, hg] at this h2
      refine ⟨?_, this.2⟩
      simp only [execOp, Sem.run_bind, h2, Result.andThen_ok, this.1, Sem.run_pure]
    · cases h
  case unOp op t x =>
    have := unS_run (β := β) (n := n) (P := P) (ρ := ρ) h w
    rw [hg] at this
    exact ⟨by simp only [execOp, Sem.run_bind, this.1, Result.andThen_ok, Sem.run_pure], this.2⟩
  case convert s d x =>
    split at h
    · rename_i q hq
      obtain rfl := Option.some.inj h
      have := convS_run (β := β) (n := n) (P := P) (ρ := ρ) hq w
      rw [hg] at this
      exact ⟨by simp only [execOp, Sem.run_bind, this.1, Result.andThen_ok, Sem.run_pure], this.2⟩
    · have := convStrS_run hs h
      rw [hg] at this
      exact ⟨by simp only [execOp, Sem.run_bind, this.1, Result.andThen_ok, Sem.run_pure], this.2⟩
  case makeFunc fn u v =>
    cases fn <;> simp only [reduceCtorEq] at h
    obtain rfl := Option.some.inj h
    refine ⟨?_, list_map_ok hk _, list_map_ok hk _⟩
    simp only [execOp, Instr.makeFunc, Sem.run_bind, Sem.run_pure, Result.andThen_ok, SV.ev, list_map_ev hg, Array.toArray_toList]
  case slice t x lo hi mx =>
    have := sliceS_run (β := β) (hk x) h w
    refine ⟨?_, this.2⟩
    have h1 := this.1
    simp only [Option.map_map, hg] at h1
    have he : (SV.ev ρ β ∘ g) = a.eval := funext hg
    rw [he] at h1
    simp only [execOp, Sem.run_bind, h1, Result.andThen_ok, Sem.run_pure]
  case fieldAddr t x f =>
    have := faddrS_run (β := β) (hk x) h w
    rw [hg] at this
    exact ⟨by simp only [execOp, Sem.run_bind, this.1, Result.andThen_ok, Sem.run_pure], this.2⟩
  case field t x f =>
    have := fieldS_run (β := β) (hk x) h w
    rw [hg] at this
    exact ⟨by simp only [execOp, Sem.run_bind, this.1, Result.andThen_ok, Sem.run_pure], this.2⟩
  case indexAddr t x i =>
    have := iaddrS_run (β := β) (hk x) h w
    rw [hg, hg] at this
    exact ⟨by simp only [execOp, Sem.run_bind, this.1, Result.andThen_ok, Sem.run_pure], this.2⟩
  case index t x i =>
    have := indexS_run (β := β) (hk x) h w
    rw [hg, hg] at this
    exact ⟨by simp only [execOp, Sem.run_bind, this.1, Result.andThen_ok, Sem.run_pure], this.2⟩
  case extract x i =>
    split at h
    · rename_i l hx
      have ex := hg x; have kx := hk x
      rw [hx] at ex kx
      refine ⟨?_, oks_get kx h⟩
      simp only [execOp, Sem.run_bind, ← ex, SV.ev, Instr.extract]
      rw [List.getElem?_toArray, SV.evs_map, List.getElem?_map, h]
      rfl
    · cases h
  case call c =>
    obtain ⟨callee, args, ts⟩ := c
    cases callee <;> simp only [reduceCtorEq] at h
    rename_i b
    have := builtinS_run (β := β) (list_map_ok hk _) h type (args.map fun | .const _ => true | _ => false) w
    rw [list_map_ev hg, Array.toArray_toList] at this
    refine ⟨?_, this.2⟩
    simp only [execOp, resolve, invoke, Sem.run_bind, Sem.run_pure, Result.andThen_ok]
    exact this.1
end
end Go.Proofs.YtfcpmapfhgibpaaDoor.SX
namespace Go.Proofs.YtfcpmapfhgibpaaDoor.SX
open Go
set_option linter.unusedVariables false
set_option linter.unusedSimpArgs false

def Lk.rd (l : Lk) (a f : Nat) (i : E) : SV :=
  match l with
  | .int k => .int k (.rd a (8 * f + kTag k) i)
  | .bool => .bool (.rd a (8 * f + 3) i)
def rdL (a : Nat) (i : E) : List Lk → Nat → List SV
  | [], _ => []
  | l :: ls, f => l.rd a f i :: rdL a i ls (f + 1)
/-- e is known to be at least 0 and less than n. -/
def inRng (fs : List (E × Bool)) (e n : E) : Bool := knownC fs (.bin .lt .i64 e (.lit 0)) == some false && knownC fs (.bin .lt .i64 e n) == some true
def leK (fs : List (E × Bool)) (a b : E) : Bool := knownC fs (.bin .lt .i64 b a) == some false
def lowE : Option SV → Option Nat
  | none => some 0
  | some s => natLit s
def highE (len : E) : Option SV → Option E
  | none => some len
  | some (.int _ e) => some e
  | _ => none
/-- A cell's element and field. -/
def elemOf (z off : Nat) (i : E) : Option (E × Nat) :=
  match i with
  | .lit (.ofNat n) => if 0 < z then some (.lit (Int.ofNat (n + off / z)), off % z) else none
  | i => if off < z then some (i, off) else none
def readI (P : Program) (a : Nat) (ks : List Lk) (t : TypeId) (i : E) (f : Nat) : Option SV :=
  match aggT P t, szOf P t with
  | some true, some m => if f + m ≤ ks.length then some (.agg (rdL a i ((ks.drop f).take m) f)) else none
  | some false, some _ => ks[f]?.map fun l => l.rd a f i
  | _, _ => none
def loadI (P : Program) (hp : Hp) (t : TypeId) (k z : Nat) (len0 i : E) (off : Nat) : Option SV :=
  match hp.at k with
  | some ⟨_, .arr a ks len0'⟩ => if z = ks.length ∧ len0.beq len0' = true then
      match elemOf z off i with
      | some (ie, f) => readI P a ks t ie f
      | none => none
    else none
  | _ => none
def indexI (P : Program) (fs : List (E × Bool)) (t : TypeId) (k z off : Nat) (len0 len e : E) : Option SV :=
  match P.underlying t with
  | some (.slice et) => if szOf P et = some z ∧ inRng fs e len = true ∧ 0 < z then
      match e with
      | .lit (.ofNat n) => some (.iptr k z len0 (.lit 0) (n * z + off))
      | e => some (.iptr k z len0 e off)
    else none
  | _ => none
def sliceI (P : Program) (fs : List (E × Bool)) (t : TypeId) (k z off : Nat) (len0 len cap : E) (lo hi : Option SV) : Option SV :=
  match P.underlying t, lowE lo, highE len hi with
  | some (.slice et), some l, some h => if szOf P et = some z ∧ leK fs (.lit (Int.ofNat l)) h = true ∧ leK fs h len = true then
      if l = 0 then some (.inp k z off len0 h cap)
      else if knownC fs (.bin .lt .i64 (.lit (Int.ofNat l)) len) = some true then some (.inp k z (off + l * z) len0 (mk .sub .i64 h (.lit (Int.ofNat l))) (.bin .zadd .i64 cap (.lit (-Int.ofNat l))))
      else none
    else none
  | _, _, _ => none
def strI (P : Program) (hp : Hp) (fs : List (E × Bool)) (src dst : TypeId) (k z off : Nat) (len0 len : E) : Option SV :=
  match P.underlying src, P.underlying dst, hp.at k, canon fs len with
  | some (.slice e), some .string, some ⟨_, .arr a [.int .u8] len0'⟩, .lit (.ofNat n) => match P.underlying e with
    | some (.int .u8) => if z = 1 ∧ len0.beq len0' = true then some (.str ((List.range n).map fun j => .rd a 4 (.lit (Int.ofNat (off + j))))) else none
    | _ => none
  | _, _, _, _ => none
def inpS (P : Program) (fs : List (E × Bool)) (hp : Hp) (g : Operand → SV) (o : Oper) : Option SV :=
  match o.op with
  | .load t x => match g x with
    | .iptr k z len0 i off => loadI P hp t k z len0 i off
    | _ => none
  | .indexAddr t x i => match g x, g i with
    | .inp k z off len0 len _, .int _ e => indexI P fs t k z off len0 len e
    | _, _ => none
  | .fieldAddr t x f => match g x, P.underlying t with
    | .iptr k z len0 i off, some (.struct fds) => match fds[f]? with
      | some fd => match szOf P fd.type with
        | some (_ + 1) => if off % z + fd.offset < z then some (.iptr k z len0 i (off + fd.offset)) else none
        | _ => none
      | none => none
    | _, _ => none
  | .nilCheck x => match g x with
    | .iptr k z len0 i off => some (.iptr k z len0 i off)
    | _ => none
  | .slice t x lo hi none => match g x with
    | .inp k z off len0 len cap => sliceI P fs t k z off len0 len cap (lo.map g) (hi.map g)
    | _ => none
  | .convert s d x => match g x with
    | .inp k z off len0 len _ => strI P hp fs s d k z off len0 len
    | _ => none
  | .call { callee := .builtin .len, args := as, argTypes := ts } => match as.toList, ts[0]? with
    | [x], some t => match P.underlying t, g x with
      | some (.slice _), .inp _ _ _ _ len _ => some (.int .i64 len)
      | _, _ => none
    | _, _ => none
  | .binOp .eql t x y _ => match P.underlying t, g x, g y with
    | some (.slice _), .inp _ _ _ _ _ _, .raw (.slice none _ _) => some (.bool (.lit 0))
    | _, _, _ => none
  | .binOp .neq t x y _ => match P.underlying t, g x, g y with
    | some (.slice _), .inp _ _ _ _ _ _, .raw (.slice none _ _) => some (.bool (.lit 1))
    | _, _, _ => none
  | _ => none
/-- An integer of few values, value by value. -/
def concN {α : Type} (e : E) (f : Int → List (E × Bool) → T α) : Nat → Int → List (E × Bool) → T α
  | 0, m, fs => f m fs
  | n + 1, m, fs => split fs (.bin .eq .i64 e (.lit m)) (f m) (concN e f n (m + 1))
def concT {α : Type} (fs : List (E × Bool)) (e : E) (f : Int → List (E × Bool) → T α) : T α :=
  match (ana fs e).2.lo, (ana fs e).2.hi with
  | some lo, some hi => if lo ≤ hi ∧ hi - lo ≤ 400 then concN e f (hi - lo).toNat lo fs else .bad 161
  | _, _ => .bad 160
/-- A test of many parts is decided at once, where it can be. -/
def simpB (fs : List (E × Bool)) (s : SV) : SV :=
  match s with
  | .bool (.bin .band k a b) => match canon fs (.bin .band k a b) with
    | .lit n => .bool (.lit n)
    | _ => .bool (.bin .band k a b)
  | s => s
theorem simpB_spec {ρ : Env} {fs : List (E × Bool)} (hf : FsOk ρ fs) (s : SV) (β : Bm) (n : Nat) : (simpB fs s).ev ρ β = s.ev ρ β ∧ (s.ok ρ n → (simpB fs s).ok ρ n) := by
  unfold simpB
  split
  · rename_i k a b
    split
    · rename_i m hm
      have := canon_ev (ρ := ρ) (fs := fs) hf (.bin .band k a b)
      rw [hm] at this
      simp only [SV.ev, this]
      exact ⟨trivial, fun _ => trivial⟩
    · exact ⟨rfl, id⟩
  · exact ⟨rfl, id⟩
def pureS' (P : Program) (fs : List (E × Bool)) (hp : Hp) (g : Operand → SV) (o : Oper) : Option SV :=
  match pureS P hp g o with
  | some r => some (simpB fs r)
  | none => inpS P fs hp g o

section
variable {P : Program} {ρ : Env} {β : Bm} {w : World} {n : Nat} {fs : List (E × Bool)}
theorem inRng_spec {e m : E} (hf : FsOk ρ fs) (h : inRng fs e m = true) : 0 ≤ e.ev ρ ∧ e.ev ρ < m.ev ρ := by
  simp only [inRng, Bool.and_eq_true, beq_iff_eq] at h
  have h1 := knownC_spec hf h.1
  have h2 := knownC_spec hf h.2
  simp only [E.ev, BOp.ev] at h1 h2
  constructor
  · by_cases hx : e.ev ρ < 0
    · simp [hx] at h1
    · omega
  · by_cases hx : e.ev ρ < m.ev ρ
    · exact hx
    · simp [hx] at h2
theorem ltK_spec {a b : E} (hf : FsOk ρ fs) (h : knownC fs (.bin .lt .i64 a b) = some true) : a.ev ρ < b.ev ρ := by
  have h2 := knownC_spec hf h
  simp only [E.ev, BOp.ev] at h2
  by_cases hx : a.ev ρ < b.ev ρ
  · exact hx
  · simp [hx] at h2
theorem leK_spec {a b : E} (hf : FsOk ρ fs) (h : leK fs a b = true) : a.ev ρ ≤ b.ev ρ := by
  simp only [leK, beq_iff_eq] at h
  have h2 := knownC_spec hf h
  simp only [E.ev, BOp.ev] at h2
  by_cases hx : b.ev ρ < a.ev ρ
  · simp [hx] at h2
  · omega
theorem elemOf_spec {z off f : Nat} {i ie : E} {N : Nat} (h : elemOf z off i = some (ie, f)) (hi : 0 ≤ i.ev ρ) (hlt : (i.ev ρ).toNat * z + off < N * z) :
    (ie.ev ρ).toNat < N ∧ f < z ∧ (i.ev ρ).toNat * z + off = (ie.ev ρ).toNat * z + f := by
  unfold elemOf at h
  split at h
  · rename_i m
    split at h
    · rename_i hz
      simp only [Option.some.injEq, Prod.mk.injEq] at h
      obtain ⟨rfl, rfl⟩ := h
      have e0 : (E.ev ρ (.lit (Int.ofNat m))).toNat = m := rfl
      have e1 : (E.ev ρ (.lit (Int.ofNat (m + off / z)))).toNat = m + off / z := rfl
      rw [e0] at hlt ⊢
      rw [e1]
      have hd := Nat.div_add_mod off z
      have hm := Nat.mod_lt off hz
      have e2 : m * z + off = (m + off / z) * z + off % z := by rw [Nat.add_mul, Nat.mul_comm (off / z) z]; omega
      refine ⟨?_, hm, e2⟩
      rw [e2] at hlt
      refine Nat.lt_of_mul_lt_mul_right (a := z) ?_
      omega
    · cases h
  · split at h
    · rename_i hz
      simp only [Option.some.injEq, Prod.mk.injEq] at h
      obtain ⟨rfl, rfl⟩ := h
      refine ⟨?_, hz, rfl⟩
      refine Nat.lt_of_mul_lt_mul_right (a := z) ?_
      omega
    · cases h
theorem rd_spec {a f : Nat} {i : E} {l : Lk} (h : l.fits (ρ.rd a (l.code f) (i.ev ρ))) : (l.rd a f i).ev ρ β = l.val (ρ.rd a (l.code f) (i.ev ρ)) ∧ (l.rd a f i).ok ρ n := by
  cases l
  · exact ⟨rfl, h⟩
  · exact ⟨rfl, trivial⟩
theorem rdL_spec {a : Nat} {i : E} : ∀ {ls : List Lk} {f : Nat}, (∀ (j : Nat) (l : Lk), ls[j]? = some l → l.fits (ρ.rd a (l.code (f + j)) (i.ev ρ))) → SV.oks ρ n (rdL a i ls f) ∧ (rdL a i ls f).length = ls.length ∧ ∀ (j : Nat) (v : Value), (SV.evs ρ β (rdL a i ls f))[j]? = some v → ∃ l : Lk, ls[j]? = some l ∧ v = l.val (ρ.rd a (l.code (f + j)) (i.ev ρ))
  | [], f, _ => ⟨trivial, rfl, fun j v hv => by simp [rdL, SV.evs] at hv⟩
  | l :: ls, f, h => by
    obtain ⟨a1, a2, a3⟩ := rdL_spec (ls := ls) (f := f + 1) fun j l' hl => by
      have := h (j + 1) l' (by simpa using hl)
      rwa [show f + 1 + j = f + (j + 1) by omega]
    have h0 := h 0 l rfl
    obtain ⟨b1, b2⟩ := rd_spec (β := β) (n := n) h0
    refine ⟨⟨b2, a1⟩, by simp [rdL, a2], fun j v hv => ?_⟩
    match j with
    | 0 =>
      simp only [rdL, SV.evs, List.getElem?_cons_zero, Option.some.injEq] at hv
      exact ⟨l, rfl, by rw [← hv]; exact b1⟩
    | j + 1 =>
      simp only [rdL, SV.evs, List.getElem?_cons_succ] at hv
      obtain ⟨l', c1, c2⟩ := a3 j v hv
      exact ⟨l', by simpa using c1, by rw [c2, show f + 1 + j = f + (j + 1) by omega]⟩
theorem loadI_run {hp : Hp} {t : TypeId} {k z off : Nat} {len0 i : E} {r : SV} (hs : Sees ρ β n hp w) (hk : (SV.iptr k z len0 i off).ok ρ n) (h : loadI P hp t k z len0 i off = some r) :
    (Instr.loadAt t ((SV.iptr k z len0 i off).ev ρ β)).run P w = .ok (r.ev ρ β) w ∧ r.ok ρ n := by
  unfold loadI at h
  split at h
  · rename_i rw_ a ks len0' hb
    split at h
    · rename_i hc
      obtain ⟨hz, hl0⟩ := hc
      obtain rfl := E.beq_eq _ _ hl0
      have hl := hs.lies k _ hb
      simp only [Bx.lies] at hl
      split at h
      · rename_i ie f he
        obtain ⟨c1, c2, c3⟩ := elemOf_spec (N := (len0.ev ρ).toNat) he hk.2.1 hk.2.2
        have hie : 0 ≤ ie.ev ρ := by
          unfold elemOf at he
          split at he
          · split at he
            · simp only [Option.some.injEq, Prod.mk.injEq] at he
              obtain ⟨rfl, _⟩ := he
              exact Int.natCast_nonneg _
            · cases he
          · split at he
            · simp only [Option.some.injEq, Prod.mk.injEq] at he
              obtain ⟨rfl, _⟩ := he
              exact hk.2.1
            · cases he
        have hnat : ((ie.ev ρ).toNat : Int) = ie.ev ρ := Int.toNat_of_nonneg hie
        have hcell : ∀ (g : Nat) (l : Lk), ks[g]? = some l → w.cell? ⟨(β k).1, (β k).2 + ((ie.ev ρ).toNat * z + g), none⟩ = some (l.val (ρ.rd a (l.code g) (ie.ev ρ))) ∧ l.fits (ρ.rd a (l.code g) (ie.ev ρ)) := fun g l hg => by
          have := hl (ie.ev ρ).toNat g l c1 hg
          rw [hnat, ← hz] at this
          exact this
        simp only [SV.ev]
        rw [c3]
        unfold readI at h
        split at h
        · rename_i m ha hm
          split at h
          · rename_i hfm
            obtain rfl := Option.some.inj h
            have hget : ∀ j l, ((ks.drop f).take m)[j]? = some l → ks[f + j]? = some l := fun j l hj => by
              rw [List.getElem?_take] at hj
              split at hj
              · rwa [List.getElem?_drop] at hj
              · cases hj
            obtain ⟨a1, a2, a3⟩ := rdL_spec (ρ := ρ) (β := β) (n := n) (a := a) (i := ie) (ls := (ks.drop f).take m) (f := f) fun j l hj => (hcell _ l (hget j l hj)).2
            refine ⟨?_, a1⟩
            have hlen : (SV.evs ρ β (rdL a ie ((ks.drop f).take m) f)).length = m := by rw [SV.evs_map]; simp [a2]; omega
            have hld : (loadCells ⟨(β k).1, (β k).2 + ((ie.ev ρ).toNat * z + f), none⟩ (SV.evs ρ β (rdL a ie ((ks.drop f).take m) f)).length).run P w = .ok (SV.evs ρ β (rdL a ie ((ks.drop f).take m) f)).toArray w :=
              run_loadCells_list w _ _ fun j v hv => by
                obtain ⟨l, e1, e2⟩ := a3 j v hv
                rw [add_lit, e2, show (β k).2 + ((ie.ev ρ).toNat * z + f) + j = (β k).2 + ((ie.ev ρ).toNat * z + (f + j)) by omega]
                exact (hcell _ l (hget j l e1)).1
            rw [hlen] at hld
            simp only [SV.ev, Instr.loadAt, Instr.sureAddr, Sem.run_bind, Sem.run_pure, Result.andThen_ok, loadVar, aggT_run ha w, if_true, szOf_run hm w, hld]
          · cases h
        · rename_i m ha hm
          cases hg : ks[f]? with
          | none => simp [hg] at h
          | some l =>
            simp only [hg, Option.map_some, Option.some.injEq] at h
            subst h
            obtain ⟨d1, d2⟩ := hcell f l hg
            obtain ⟨b1, b2⟩ := rd_spec (β := β) (n := n) d2
            refine ⟨?_, b2⟩
            rw [b1]
            simp only [Instr.loadAt, Instr.sureAddr, Sem.run_bind, Sem.run_pure, Result.andThen_ok, loadVar, aggT_run ha w, Bool.false_eq_true, if_false, run_load, d1]
        · cases h
      · cases h
    · cases h
  · cases h
theorem run_boundE {k : IntKind} {e : E} {y : Nat} (h0 : 0 ≤ e.ev ρ) (h1 : e.ev ρ ≤ y) (code : BoundsCode) (w : World) : (Instr.sliceBound ((SV.int k e).ev ρ β) y code).run P w = .ok (e.ev ρ).toNat w := by
  have n1 : ¬ e.ev ρ < 0 := by omega
  have n2 : ¬ (y : Int) < e.ev ρ := by omega
  simp [Instr.sliceBound, SV.ev, asIntOf, h0, h1, n1, n2]
theorem run_boundsE {lo hi : Option SV} {len h : E} {cap : Nat} {l : Nat} (hl : lowE lo = some l) (hh : highE len hi = some h) (h0 : (l : Int) ≤ h.ev ρ) (h1 : h.ev ρ ≤ cap) (w : World) :
    (Instr.sliceBounds true (len.ev ρ).toNat cap (lo.map (SV.ev ρ β)) (hi.map (SV.ev ρ β)) none).run P w = .ok (l, (h.ev ρ).toNat, cap) w := by
  have hlo : ∀ code, ∀ s, lo = some s → (Instr.sliceBound (s.ev ρ β) (h.ev ρ).toNat code).run P w = .ok l w := fun code s hs => by
    subst hs
    obtain ⟨k, rfl⟩ := natLit_spec hl
    have n2 : ¬ (h.ev ρ).toNat < l := by omega
    have n3 : l ≤ (h.ev ρ).toNat := by omega
    simp [Instr.sliceBound, SV.ev, E.ev, asIntOf, n2, n3]
    omega
  cases hi with
  | none =>
    obtain rfl := Option.some.inj hh
    cases lo with
    | none => obtain rfl := Option.some.inj hl; simp [Instr.sliceBounds]
    | some s => simp [Instr.sliceBounds, hlo _ s rfl]
  | some s' =>
    have hhi : ∀ code, (Instr.sliceBound (s'.ev ρ β) cap code).run P w = .ok (h.ev ρ).toNat w := fun code => by
      unfold highE at hh
      split at hh
      · rename_i he; cases he
      · rename_i k e he
        obtain rfl := Option.some.inj hh
        obtain rfl := Option.some.inj he
        exact run_boundE (by omega) h1 code w
      · cases hh
    cases lo with
    | none => obtain rfl := Option.some.inj hl; simp [Instr.sliceBounds, hhi]
    | some s => simp [Instr.sliceBounds, hhi, hlo _ s rfl]
theorem indexI_run {t : TypeId} {k z off : Nat} {len0 len cap e : E} {ki : IntKind} {r : SV} (hf : FsOk ρ fs) (hk : (SV.inp k z off len0 len cap).ok ρ n) (h : indexI P fs t k z off len0 len e = some r) (w : World) :
    (Instr.indexAt t ((SV.inp k z off len0 len cap).ev ρ β) ((SV.int ki e).ev ρ β)).run P w = .ok (r.ev ρ β) w ∧ r.ok ρ n := by
  unfold indexI at h
  split at h
  · rename_i et hu
    split at h
    · rename_i hc
      obtain ⟨hz, hr, hz0⟩ := hc
      obtain ⟨r1, r2⟩ := inRng_spec hf hr
      obtain ⟨k1, k2, k3, k4, k5⟩ := hk
      have hlt : (e.ev ρ).toNat < (len.ev ρ).toNat := by omega
      have hbd : (e.ev ρ).toNat * z + off < (len0.ev ρ).toNat * z ∨ z = 0 := by
        rcases Nat.eq_zero_or_pos z with h0 | h0
        · exact .inr h0
        · refine .inl ?_
          have := Nat.mul_le_mul_right z (show (e.ev ρ).toNat + 1 ≤ (len.ev ρ).toNat by omega)
          rw [Nat.add_mul] at this
          omega
      have hnn : ((e.ev ρ).toNat : Int) = e.ev ρ := Int.toNat_of_nonneg r1
      have hrun : (Instr.indexAt t ((SV.inp k z off len0 len cap).ev ρ β) ((SV.int ki e).ev ρ β)).run P w = .ok (.pointer (some ⟨(β k).1, (β k).2 + ((e.ev ρ).toNat * z + off), none⟩)) w := by
        have h1 : ¬ e.ev ρ < 0 := by omega
        have h2 : ¬ (len.ev ρ).toNat ≤ (e.ev ρ).toNat := by omega
        simp [Instr.indexAt, run_underlying hu w, SV.ev, asIntOf, Instr.sureAddr, szOf_run hz w, add_lit, hlt, r1, h1, h2, hnn]
        rw [if_pos (by omega), Nat.add_assoc, Nat.add_comm off]
      have hbd := hbd.resolve_right (by omega)
      split at h
      · rename_i m _
        obtain rfl := Option.some.inj h
        refine ⟨?_, k1, Int.le_refl _, ?_⟩
        · rw [hrun]
          simp only [SV.ev, E.ev]
          have : (Int.ofNat m).toNat = m := rfl
          rw [this]
          simp
        · have e0 : (E.ev ρ (.lit (Int.ofNat m))).toNat = m := rfl
          rw [e0] at hbd
          simp only [E.ev]
          simpa using hbd
      · obtain rfl := Option.some.inj h
        exact ⟨hrun, k1, r1, hbd⟩
    · cases h
  · cases h
theorem sliceI_run {t : TypeId} {k z off : Nat} {len0 len cap : E} {lo hi : Option SV} {r : SV} (hf : FsOk ρ fs) (hk : (SV.inp k z off len0 len cap).ok ρ n) (h : sliceI P fs t k z off len0 len cap lo hi = some r) (w : World) :
    (Instr.sliceAt t ((SV.inp k z off len0 len cap).ev ρ β) (lo.map (SV.ev ρ β)) (hi.map (SV.ev ρ β)) none).run P w = .ok (r.ev ρ β) w ∧ r.ok ρ n := by
  unfold sliceI at h
  split at h
  · rename_i et l hE hu hl hh
    split at h
    · rename_i hc
      obtain ⟨hz, hle, hle2⟩ := hc
      obtain ⟨k1, k2, k3, k4, k5⟩ := hk
      have e1 := leK_spec hf hle
      have e2 := leK_spec hf hle2
      have el : E.ev ρ (.lit (Int.ofNat l)) = (l : Int) := rfl
      rw [el] at e1
      have hb := run_boundsE (P := P) (β := β) (cap := (cap.ev ρ).toNat) hl hh e1 (by omega) w
      have wl := (wf_iff .i64 _).1 k2
      have i1 : IntKind.i64.min = -9223372036854775808 := by decide
      have i2 : IntKind.i64.max = 9223372036854775807 := by decide
      rw [i1, i2] at wl
      have hmul := Nat.mul_le_mul_right z (show (hE.ev ρ).toNat ≤ (len.ev ρ).toNat by omega)
      split at h
      · rename_i h0
        subst h0
        obtain rfl := Option.some.inj h
        refine ⟨?_, k1, (wf_iff .i64 _).2 (by rw [i1, i2]; omega), by simpa using e1, by omega, by omega⟩
        simp [Instr.sliceAt, Instr.slice, run_underlying hu w, SV.ev, hb, szOf_run hz w, add_lit]
      · split at h
        · rename_i h0 hlt
          obtain rfl := Option.some.inj h
          have e3 := ltK_spec hf hlt
          rw [el] at e3
          have hsub : (mk .sub .i64 hE (.lit (Int.ofNat l))).ev ρ = hE.ev ρ - l := by
            rw [mk_ev]
            show IntKind.i64.wrap (hE.ev ρ - l) = _
            rw [IntKind.wrap_i64]
            omega
          have hcap : (E.bin .zadd .i64 cap (.lit (-Int.ofNat l))).ev ρ = cap.ev ρ - l := by
            show cap.ev ρ + (-Int.ofNat l) = _
            rw [Int.ofNat_eq_natCast]; omega
          have hmz : ((hE.ev ρ - l).toNat) * z + l * z = (hE.ev ρ).toNat * z := by
            rw [← Nat.add_mul]; congr 1; omega
          refine ⟨?_, k1, ?_, by rw [hsub]; omega, by rw [hsub, hcap]; omega, by rw [hsub]; omega⟩
          · have n1 : ¬ (cap.ev ρ).toNat = l := by omega
            have q1 : (hE.ev ρ).toNat - l = (hE.ev ρ - l).toNat := by omega
            have q2 : (cap.ev ρ).toNat - l = (cap.ev ρ - l).toNat := by omega
            simp only [SV.ev, hsub, hcap] at hb ⊢
            simp only [Instr.sliceAt, Instr.slice, Sem.run_bind, run_underlying hu w, Result.andThen_ok, SV.ev, Option.map_none, hb, szOf_run hz w, Sem.run_pure]
            simp only [if_neg n1, add_lit, Option.map_some, q1, q2, Nat.add_assoc]
          · rw [hsub]
            exact (wf_iff .i64 _).2 (by rw [i1, i2]; omega)
        · cases h
    · cases h
  · cases h
theorem strI_run {hp : Hp} {src dst : TypeId} {k z off : Nat} {len0 len cap : E} {r : SV} (hf : FsOk ρ fs) (hs : Sees ρ β n hp w) (hk : (SV.inp k z off len0 len cap).ok ρ n) (h : strI P hp fs src dst k z off len0 len = some r) :
    (convert src dst ((SV.inp k z off len0 len cap).ev ρ β)).run P w = .ok (r.ev ρ β) w ∧ r.ok ρ n := by
  unfold strI at h
  split at h
  · rename_i e rw_ a len0' m hsrc hdst hb hcn
    split at h
    · rename_i he
      split at h
      · rename_i hc
        obtain ⟨rfl, hl0⟩ := hc
        obtain rfl := E.beq_eq _ _ hl0
        obtain rfl := Option.some.inj h
        have hl := hs.lies k _ hb
        simp only [Bx.lies] at hl
        obtain ⟨k1, k2, k3, k4, k5⟩ := hk
        have hlen : len.ev ρ = m := by
          have := canon_ev (ρ := ρ) (fs := fs) hf len
          rw [hcn] at this
          exact this.symm
        have hm : (len.ev ρ).toNat = m := by omega
        have hcell : ∀ j, j < m → w.cell? ⟨(β k).1, (β k).2 + (off + j), none⟩ = some (.int .u8 (ρ.rd a 4 (Int.ofNat (off + j)))) ∧ (Lit.int .u8 (ρ.rd a 4 (Int.ofNat (off + j)))).wf = true := fun j hj => by
          have := hl (off + j) 0 (.int .u8) (by omega) rfl
          simp only [List.length_cons, List.length_nil, Nat.zero_add, Nat.mul_one, Nat.add_zero] at this
          exact this
        have hes : ∀ m', E.evs ρ ((List.range m').map fun j => .rd a 4 (.lit (Int.ofNat (off + j)))) = (List.range m').map fun j => ρ.rd a 4 (Int.ofNat (off + j)) := fun m' => by
          have : ∀ l : List Nat, E.evs ρ (l.map fun j => .rd a 4 (.lit (Int.ofNat (off + j)))) = l.map fun j => ρ.rd a 4 (Int.ofNat (off + j)) := fun l => by
            induction l with
            | nil => rfl
            | cons x l ih => simp only [List.map_cons, E.evs, ih]; rfl
          exact this _
        constructor
        · have hld : (loadCells ⟨(β k).1, (β k).2 + off, none⟩ ((List.range m).map fun j => Value.int .u8 (ρ.rd a 4 (Int.ofNat (off + j)))).length).run P w = .ok ((List.range m).map fun j => Value.int .u8 (ρ.rd a 4 (Int.ofNat (off + j)))).toArray w :=
            run_loadCells_list w _ _ fun j v hv => by
              rw [add_lit]
              rw [List.getElem?_map] at hv
              by_cases hj : j < m
              · rw [List.getElem?_range hj] at hv
                obtain rfl := Option.some.inj hv
                rw [Nat.add_assoc]
                exact (hcell j hj).1
              · rw [List.getElem?_eq_none (by simpa using hj)] at hv
                cases hv
          rw [List.length_map, List.length_range] at hld
          simp only [convert, Sem.run_bind, run_underlying hsrc w, run_underlying hdst w, Result.andThen_ok, SV.ev, run_underlying he w, Conv.bytesToString, hm, hld]
          have hmm : (List.range m).map (fun j => Value.int .u8 (ρ.rd a 4 (Int.ofNat (off + j)))) = ((List.range m).map fun j => ρ.rd a 4 (Int.ofNat (off + j))).map (Value.int .u8) := by rw [List.map_map]; rfl
          rw [hmm]
          rw [← Array.forIn_toList, bytes_loop P w _ (fun _ _ => rfl) _ .empty]
          simp only [Result.andThen_ok, Sem.run_pure, bytesV, hes]
          congr 3
          apply Array.ext'
          simp
        · intro x hx
          rw [hes] at hx
          obtain ⟨j, hj, rfl⟩ := List.mem_map.1 hx
          have := (wf_iff .u8 _).1 (hcell j (List.mem_range.1 hj)).2
          rw [show IntKind.u8.min = 0 by decide, show IntKind.u8.max = 255 by decide] at this
          exact ⟨this.1, by have := this.2; omega⟩
      · cases h
    · cases h
  · cases h
theorem nil_ne {t e : TypeId} (hu : P.underlying t = some (.slice e)) (d : Nat) (p : Addr) (l c l' c' : Nat) (w : World) : (Op.equalIn (d + 1) t (.slice (some p) l c) (.slice none l' c')).run P w = .ok false w := by
  simp [Op.equalIn, run_underlying hu w]
set_option maxHeartbeats 1000000 in
theorem inpS_run {hp : Hp} {g : Operand → SV} {o : Oper} {r : SV} {a : Act} (hg : ∀ x, (g x).ev ρ β = a.eval x) (hk : ∀ x, (g x).ok ρ n) (hs : Sees ρ β n hp w) (hf : FsOk ρ fs) (h : inpS P fs hp g o = some r) :
    (execOp a.eval o).run P w = .ok (.value (r.ev ρ β)) w ∧ r.ok ρ n := by
  unfold inpS at h
  split at h
  · rename_i t x ho
    split at h
    · rename_i k z len0 i off hx
      have ek := hk x; have ex := hg x
      rw [hx] at ek ex
      have := loadI_run hs ek h
      rw [ex] at this
      exact ⟨by simp only [execOp, ho, Sem.run_bind, this.1, Result.andThen_ok, Sem.run_pure], this.2⟩
    · cases h
  · rename_i t x i ho
    split at h
    · rename_i k z off len0 len cap ki e hx hi
      have ek := hk x; have ex := hg x; have ei := hg i
      rw [hx] at ek ex
      rw [hi] at ei
      have := indexI_run (β := β) (ki := ki) hf ek h w
      rw [ex, ei] at this
      exact ⟨by simp only [execOp, ho, Sem.run_bind, this.1, Result.andThen_ok, Sem.run_pure], this.2⟩
    · cases h
  · rename_i t x f ho
    split at h
    · rename_i k z len0 i off fds hx hu
      have ek := hk x; have ex := hg x
      rw [hx] at ek ex
      split at h
      · rename_i fd hfd
        split at h
        · rename_i m hz
          split at h
          · rename_i hlt
            obtain rfl := Option.some.inj h
            obtain ⟨k1, k2, k3⟩ := ek
            have hz0 : 0 < z := by omega
            refine ⟨?_, k1, k2, ?_⟩
            · have hrun : (Instr.fieldAt t (a.eval x) f).run P w = .ok ((SV.iptr k z len0 i (off + fd.offset)).ev ρ β) w := by
                rw [← ex]
                simp [Instr.fieldAt, run_underlying hu w, hfd, SV.ev, Instr.sureAddr, fieldPlace, szOf_run hz w, add_lit, Nat.add_assoc]
              simp only [execOp, ho, Sem.run_bind, hrun, Result.andThen_ok, Sem.run_pure]
            · have hd := Nat.div_add_mod off z
              have e2 : (i.ev ρ).toNat * z + off = ((i.ev ρ).toNat + off / z) * z + off % z := by rw [Nat.add_mul, Nat.mul_comm (off / z) z]; omega
              rw [e2] at k3
              have h1 : (i.ev ρ).toNat + off / z < (len0.ev ρ).toNat := Nat.lt_of_mul_lt_mul_right (a := z) (by omega)
              have h2 := Nat.mul_le_mul_right z (show (i.ev ρ).toNat + off / z + 1 ≤ (len0.ev ρ).toNat from h1)
              rw [Nat.add_mul ((i.ev ρ).toNat + off / z)] at h2
              omega
          · cases h
        · cases h
      · cases h
    · cases h
  · rename_i x ho
    split at h
    · rename_i k z len0 i off hx
      obtain rfl := Option.some.inj h
      have ek := hk x; have ex := hg x
      rw [hx] at ek ex
      exact ⟨by simp only [execOp, ho, ← ex, SV.ev, Sem.run_pure], ek⟩
    · cases h
  · rename_i t x lo hi ho
    split at h
    · rename_i k z off len0 len cap hx
      have ek := hk x; have ex := hg x
      rw [hx] at ek ex
      have := sliceI_run (β := β) hf ek h w
      refine ⟨?_, this.2⟩
      have h1 := this.1
      rw [ex] at h1
      simp only [Option.map_map] at h1
      have he : (SV.ev ρ β ∘ g) = a.eval := funext hg
      rw [he] at h1
      simp only [execOp, ho, Sem.run_bind, Option.map_none, h1, Result.andThen_ok, Sem.run_pure]
    · cases h
  · rename_i s d x ho
    split at h
    · rename_i k z off len0 len cap hx
      have ek := hk x; have ex := hg x
      rw [hx] at ek ex
      have := strI_run hf hs ek h
      rw [ex] at this
      exact ⟨by simp only [execOp, ho, Sem.run_bind, this.1, Result.andThen_ok, Sem.run_pure], this.2⟩
    · cases h
  · rename_i as ts ho
    split at h
    · rename_i x t has ht
      split at h
      · rename_i e k z off len0 len cap hu hx
        obtain rfl := Option.some.inj h
        have ek := hk x; have ex := hg x
        rw [hx] at ek ex
        obtain ⟨k1, k2, k3, k4, k5⟩ := ek
        refine ⟨?_, k2⟩
        have has' : as = #[x] := by
          apply Array.ext'
          simpa using has
        subst has'
        have hnn : ((len.ev ρ).toNat : Int) = len.ev ρ := Int.toNat_of_nonneg k3
        simp only [SV.ev] at ex
        simp [execOp, ho, resolve, invoke, builtin, Builtin.len_, ht, run_underlying hu w, ← ex, SV.ev, goInt, hnn]
      · cases h
    · cases h
  · rename_i t x y yt ho
    split at h
    · rename_i e k z off len0 len cap b c hu hx hy
      obtain rfl := Option.some.inj h
      have ex := hg x; have ey := hg y
      rw [hx] at ex
      rw [hy] at ey
      refine ⟨?_, trivial⟩
      have h2 := eqGuardOK_run (P := P) (ρ := ρ) (β := β) (t := t) (x := .inp k z off len0 len cap) (y := .raw (.slice none b c)) rfl .eql x y w
      rw [ex, ey] at h2
      have hq : (Op.equalIn Op.maxDepth t ((SV.inp k z off len0 len cap).ev ρ β) ((SV.raw (.slice none b c)).ev ρ β)).run P w = .ok false w := by
        exact nil_ne hu 9999 _ _ _ _ _ w
      simp only [SV.ev] at hq
      simp only [execOp, ho, Sem.run_bind, h2, Result.andThen_ok]
      rw [← ex, ← ey]
      simp [SV.ev, binOp, Op.equal, hq, E.ev]
    · cases h
  · rename_i t x y yt ho
    split at h
    · rename_i e k z off len0 len cap b c hu hx hy
      obtain rfl := Option.some.inj h
      have ex := hg x; have ey := hg y
      rw [hx] at ex
      rw [hy] at ey
      refine ⟨?_, trivial⟩
      have h2 := eqGuardOK_run (P := P) (ρ := ρ) (β := β) (t := t) (x := .inp k z off len0 len cap) (y := .raw (.slice none b c)) rfl .neq x y w
      rw [ex, ey] at h2
      have hq : (Op.equalIn Op.maxDepth t ((SV.inp k z off len0 len cap).ev ρ β) ((SV.raw (.slice none b c)).ev ρ β)).run P w = .ok false w := by
        exact nil_ne hu 9999 _ _ _ _ _ w
      simp only [SV.ev] at hq
      simp only [execOp, ho, Sem.run_bind, h2, Result.andThen_ok]
      rw [← ex, ← ey]
      simp [SV.ev, binOp, Op.equal, hq, E.ev]
    · cases h
  · cases h
theorem concN_holds {α : Type} {e : E} {f : Int → List (E × Bool) → T α} {Q : α → Prop} : ∀ (k : Nat) (m : Int) (fs : List (E × Bool)), FsOk ρ fs → m ≤ e.ev ρ → e.ev ρ ≤ m + k → (concN e f k m fs).holds ρ Q → ∃ fs', FsOk ρ fs' ∧ (f (e.ev ρ) fs').holds ρ Q
  | 0, m, fs, hf, h1, h2, h => ⟨fs, hf, by
    have : e.ev ρ = m := by omega
    rw [this]; exact h⟩
  | k + 1, m, fs, hf, h1, h2, h => by
    unfold concN at h
    obtain ⟨fs', hf', h'⟩ := split_holds hf h
    simp only [E.ev, BOp.ev] at h'
    rcases h' with ⟨h3, h4⟩ | ⟨h3, h4⟩
    · have : e.ev ρ = m := by
        by_cases hx : e.ev ρ = m
        · exact hx
        · simp [hx] at h3
      exact ⟨fs', hf', by rw [this]; exact h4⟩
    · have : e.ev ρ ≠ m := fun hx => by simp [hx] at h3
      exact concN_holds k (m + 1) fs' hf' (by omega) (by omega) h4
theorem concT_holds {α : Type} {e : E} {f : Int → List (E × Bool) → T α} {Q : α → Prop} (hf : FsOk ρ fs) (h : (concT fs e f).holds ρ Q) : ∃ fs', FsOk ρ fs' ∧ (f (e.ev ρ) fs').holds ρ Q := by
  have ha := (ana_ok hf e).2
  unfold concT at h
  split at h
  · rename_i lo hi hlo hhi
    split at h
    · have h1 := ha.1 lo hlo
      have h2 := ha.2 hi hhi
      exact concN_holds _ _ _ hf h1 (by omega) h
    · exact h.elim
  · exact h.elim
theorem pureS'_run {hp : Hp} {g : Operand → SV} {o : Oper} {r : SV} {a : Act} (hg : ∀ x, (g x).ev ρ β = a.eval x) (hk : ∀ x, (g x).ok ρ n) (hs : Sees ρ β n hp w) (hf : FsOk ρ fs) (h : pureS' P fs hp g o = some r) :
    (execOp a.eval o).run P w = .ok (.value (r.ev ρ β)) w ∧ r.ok ρ n := by
  unfold pureS' at h
  split at h
  · rename_i r' hr
    obtain rfl := Option.some.inj h
    obtain ⟨q1, q2⟩ := pureS_run hg hk hs hr
    obtain ⟨s1, s2⟩ := simpB_spec hf r' β n
    rw [s1]
    exact ⟨q1, s2 q2⟩
  · exact inpS_run hg hk hs hf h
end
end Go.Proofs.YtfcpmapfhgibpaaDoor.SX
namespace Go.Proofs.YtfcpmapfhgibpaaDoor.SX
open Go Go.RowKit
set_option linter.unusedVariables false
set_option linter.unusedSimpArgs false

section
variable {P : Program} {ρ : Env} {w0 : World} {M : Nat → Prop} {β : Bm} {w w' : World} {hp : Hp}

theorem Bx.lies_ext {n : Nat} {β β' : Bm} (hx : Ext n β β') {bv : Nat × Nat} {w : World} : ∀ {b : Bx}, b.ok ρ n → b.lies ρ β bv w → b.lies ρ β' bv w
  | .cells c ty 0, hk, h => by simp only [Bx.lies] at *; rw [SV.evs_ext hx c hk]; exact h
  | .cells c ty (s + 1), hk, h => by simp only [Bx.lies] at *; rw [SV.evs_ext hx c hk]; exact h
  | .map es clock, hk, h => by
    simp only [Bx.lies] at *
    rw [h]
    congr 3
    exact List.map_congr_left fun e he => by
      have := hk e he
      simp only [entOf, SV.ev_ext hx _ this.1, SV.ev_ext hx _ this.2]
  | .ro c _, hk, h => by simp only [Bx.lies] at *; rw [SV.evs_ext hx c hk]; exact h
  | .arr _ _ _, _, h => h
  | .gone, _, h => h
  | .obj _ _, _, h => h
  | .view o l, hk, h => by simp only [Bx.lies] at *; rw [hx o hk]; exact h
theorem Bx.lies_block {b : Bx} {bv : Nat × Nat} {w w' : World} (h : w'.heap[bv.1]? = w.heap[bv.1]?) (hl : b.lies ρ β bv w) : b.lies ρ β bv w' := by
  have hcell : ∀ i, w'.cell? ⟨bv.1, i, none⟩ = w.cell? ⟨bv.1, i, none⟩ := fun i => by unfold World.cell?; simp only [h]
  unfold Bx.lies at *
  split <;> first | (simp only at hl ⊢; rw [h]; exact hl) | (exact ⟨fun i v hv => by rw [hcell]; exact hl.1 i v hv, hl.2⟩) | exact hl | (intro i f l hi hf; rw [hcell]; exact hl i f l hi hf) | trivial
theorem Bx.lies_lt {b : Bx} {bv : Nat × Nat} {w : World} (hl : b.lies ρ β bv w) (hv : b.live = true) : bv.1 < w.heap.size := by
  cases b with
  | cells c ty tail => obtain ⟨rest, h⟩ := Bx.lies_cells hl; exact (Array.getElem?_eq_some_iff.1 h).1
  | map es clock => exact (Array.getElem?_eq_some_iff.1 hl).1
  | ro c m =>
    cases c with
    | nil => cases hv
    | cons s c => exact block_lt_of_cell (hl.1 0 _ rfl)
  | arr a ks len0 => cases hv
  | gone => cases hv
  | obj q es => cases hv
  | view o l => cases hv
theorem Bx.not_live {b : Bx} {bv : Nat × Nat} {w w' : World} (h : b.live = false) (ha : b.isArr = false) (hl : b.lies ρ β bv w') : b.lies ρ β bv w := by
  cases b with
  | cells c ty tail => cases h
  | map es clock => cases h
  | ro c m =>
    cases c with
    | nil => exact ⟨fun i v hv => by simp [SV.evs] at hv, fun h => by cases h⟩
    | cons s c => cases h
  | arr a ks len0 => cases ha
  | gone => trivial
  | obj q es => trivial
  | view o l => exact hl
theorem Bx.ok_mono {n m : Nat} (hnm : n ≤ m) : ∀ {b : Bx}, b.ok ρ n → b.ok ρ m
  | .cells c _ _, h => SV.oks_mono hnm c h
  | .map es _, h => fun e he => ⟨SV.ok_mono hnm _ (h e he).1, SV.ok_mono hnm _ (h e he).2⟩
  | .ro c _, h => SV.oks_mono hnm c h
  | .arr _ _ _, _ => trivial
  | .gone, _ => trivial
  | .obj _ _, _ => trivial
  | .view o _, h => Nat.lt_of_lt_of_le h hnm

theorem Kept.refl (w : World) (M : Nat → Prop) : Kept w M w := ⟨rfl, rfl, rfl, Nat.le_refl _, fun _ _ _ => rfl⟩
theorem Kept.below (h : Kept w0 M w) (hb : Below w.heap.size w w') : Kept w0 M w' :=
  ⟨hb.os.trans h.os, hb.tape.trans h.tape, hb.output.trans h.output, Nat.le_trans h.size hb.size, fun i hi hm => (hb.block i (Nat.lt_of_lt_of_le hi h.size)).trans (h.block i hi hm)⟩

/-- A call that makes new memory alone (a draw and an alloc are such). -/
theorem Heap.below (h : Heap ρ w0 M β hp w) (hb : Below w.heap.size w w') : Heap ρ w0 M β hp w' := by
  refine ⟨fun k b hk => ?_, h.inj, h.mine, h.good, h.kept.below hb, h.arrs, h.objs.imp fun φ ho => ho.to (fun k b hk _ => ⟨b, hk, rfl, rfl⟩) (fun k b hk hv => .inl ⟨k, b, hk, hv, rfl⟩) (fun k b i hk hv hi => hb.block i (ho.lt hk hv hi))⟩
  have hl := h.lies k b hk
  cases hv : b.c.live with
  | false =>
    cases ha : b.c.isArr with
    | false => exact Bx.not_live hv ha hl
    | true => exact Bx.lies_block (hb.block _ (Nat.lt_of_lt_of_le (h.arrs k b hk ha).1 h.kept.size)) hl
  | true => exact Bx.lies_block (hb.block _ (Bx.lies_lt hl hv)) hl

def upd (β : Bm) (n : Nat) (v : Nat × Nat) : Bm := fun b => if b = n then v else β b
theorem upd_same (β : Bm) (n : Nat) (v : Nat × Nat) : upd β n v n = v := if_pos rfl
theorem upd_ext (β : Bm) (n : Nat) (v : Nat × Nat) : Ext n β (upd β n v) := fun b hb => if_neg (Nat.ne_of_lt hb)

/-- The objects, beside a new box that is none: at a block of another box, or at a new one. -/
theorem Heap.objs_push {bv : Nat × Nat} {r : Bool} {b : Bx} (h : Heap ρ w0 M β hp w) (hn : (∃ k0 b0, hp.at k0 = some b0 ∧ b0.c.live = true ∧ bv.1 = (β k0).1) ∨ w.heap.size ≤ bv.1 ∨ b.live = false)
    (hw : ∀ φ, ObjsOk ρ w0 M β hp φ w → ∀ (k : Nat) (b : Box) (i : Nat), hp.at k = some b → b.c.isObj = true → φ k i → w'.heap[i]? = w.heap[i]?) {hp' : Hp} (hp'n : hp'.n = hp.n) (hsub : ∀ (k : Nat) (x : Box), hp'.at k = some x → x.c.live = true ∨ x.c.isObj = true → hp.at k = some x) (hb : b.isObj = false := by rfl) :
    ∃ φ, ObjsOk ρ w0 M (upd β hp.n bv) (hp'.push ⟨r, b⟩) φ w' := by
  obtain ⟨φ, ho⟩ := h.objs
  have cases_ : ∀ (k : Nat) (x : Box), (hp'.push ⟨r, b⟩).at k = some x → (x.c.live = true ∨ x.c.isObj = true → hp.at k = some x ∧ upd β hp.n bv k = β k) ∨ (k = hp.n ∧ x = ⟨r, b⟩) := fun k x hk => by
    have hlt' := Hp.at_lt hk
    simp only [Hp.n_push] at hlt'
    by_cases hlt : k < hp'.n
    · rw [Hp.at_push_lt _ hlt] at hk
      exact .inl fun hx => ⟨hsub k x hk hx, upd_ext β hp.n bv k (by omega)⟩
    · obtain rfl : k = hp'.n := by omega
      rw [Hp.at_push_n] at hk
      exact .inr ⟨hp'n, (Option.some.inj hk).symm⟩
  refine ⟨φ, ho.to (fun k x hk hx => ?_) (fun k x hk hx => ?_) (hw φ ho)⟩
  · rcases cases_ k x hk with h1 | ⟨rfl, rfl⟩
    · exact ⟨x, (h1 (.inr hx)).1, rfl, (h1 (.inr hx)).2⟩
    · simp only at hx; rw [hb] at hx; cases hx
  · rcases cases_ k x hk with h1 | ⟨rfl, rfl⟩
    · exact .inl ⟨k, x, (h1 (.inl hx)).1, hx, by rw [(h1 (.inl hx)).2]⟩
    · rw [upd_same]
      rcases hn with h2 | h2 | h2
      · exact .inl h2
      · exact .inr h2
      · simp only at hx; rw [h2] at hx; cases hx
theorem Heap.objs_new {bv : Nat × Nat} {r : Bool} {b : Bx} (h : Heap ρ w0 M β hp w) (hbl : Below w.heap.size w w') (hn : w.heap.size ≤ bv.1) (hb : b.isObj = false := by rfl) : ∃ φ, ObjsOk ρ w0 M (upd β hp.n bv) (hp.push ⟨r, b⟩) φ w' :=
  h.objs_push (.inr (.inl hn)) (fun φ ho k b i hk hv hi => hbl.block i (ho.lt hk hv hi)) rfl (fun k x hk _ => hk) hb
/-- A new box at a block that is new (w is the world with it). -/
theorem Heap.push {bv : Nat × Nat} {b : Bx} (h : Heap ρ w0 M β hp w) (hnew : ∀ j b', hp.at j = some b' → b'.c.live = true → (β j).1 ≠ bv.1) (hsz : M bv.1 ∨ w0.heap.size ≤ bv.1) (hok : b.ok ρ (hp.n + 1))
    (hl : b.lies ρ (upd β hp.n bv) bv w) (hobj : ∃ φ, ObjsOk ρ w0 M (upd β hp.n bv) (hp.push ⟨true, b⟩) φ w) (ha : b.isArr = false := by rfl) : Heap ρ w0 M (upd β hp.n bv) (hp.push ⟨true, b⟩) w := by
  have hx := upd_ext β hp.n bv
  have cases_ : ∀ (k : Nat) (x : Box), (hp.push ⟨true, b⟩).at k = some x → (k < hp.n ∧ hp.at k = some x ∧ upd β hp.n bv k = β k) ∨ (k = hp.n ∧ x = ⟨true, b⟩) := fun k x hk => by
    have hlt' := Hp.at_lt hk
    simp only [Hp.n_push] at hlt'
    by_cases hlt : k < hp.n
    · rw [Hp.at_push_lt _ hlt] at hk
      exact .inl ⟨hlt, hk, hx k hlt⟩
    · obtain rfl : k = hp.n := by omega
      rw [Hp.at_push_n] at hk
      exact .inr ⟨rfl, (Option.some.inj hk).symm⟩
  refine ⟨fun k x hk => ?_, fun j k x y hj hk hlx hly he => ?_, fun k x hk hr hlx => ?_, fun k x hk => ?_, h.kept, fun k x hk hax => ?_, hobj⟩
  · rcases cases_ k x hk with ⟨hlt, hk', e⟩ | ⟨rfl, rfl⟩
    · rw [e]; exact Bx.lies_ext hx (h.good k x hk') (h.lies k x hk')
    · rw [upd_same]; exact hl
  · rcases cases_ j x hj with ⟨hlt, hj', e⟩ | ⟨rfl, rfl⟩ <;> rcases cases_ k y hk with ⟨hlt', hk', e'⟩ | ⟨rfl, rfl⟩
    · rw [e, e'] at he; exact h.inj j k x y hj' hk' hlx hly he
    · rw [e, upd_same] at he; exact absurd he (hnew j x hj' hlx)
    · rw [e', upd_same] at he; exact absurd he.symm (hnew k y hk' hly)
    · rfl
  · rcases cases_ k x hk with ⟨hlt, hk', e⟩ | ⟨rfl, rfl⟩
    · rw [e]; exact h.mine k x hk' hr hlx
    · rw [upd_same]; exact hsz
  · simp only [Hp.n_push]
    rcases cases_ k x hk with ⟨hlt, hk', e⟩ | ⟨rfl, rfl⟩
    · exact Bx.ok_mono (by omega) (h.good k x hk')
    · exact hok
  · rcases cases_ k x hk with ⟨hlt, hk', e⟩ | ⟨rfl, rfl⟩
    · rw [e]; exact h.arrs k x hk' hax
    · simp only at hax; rw [ha] at hax; cases hax
theorem Heap.alloc {c : Nat} {b : Bx} {o : Obj} (h : Heap ρ w0 M β hp w) (hok : b.ok ρ (hp.n + 1)) (hl : b.lies ρ (upd β hp.n (w.heap.size, c)) (w.heap.size, c) (w.alloc o)) (ha : b.isArr = false := by rfl) (hao : b.isObj = false := by rfl) :
    Heap ρ w0 M (upd β hp.n (w.heap.size, c)) (hp.push ⟨true, b⟩) (w.alloc o) :=
  (h.below ((Below.refl _ _).alloc (Nat.le_refl _) _)).push (fun j b' hj hv e => by
    have := Bx.lies_lt (h.lies j b' hj) hv
    simp only at e
    omega) (.inr h.kept.size) hok hl (h.objs_new ((Below.refl _ _).alloc (Nat.le_refl _) _) (Nat.le_refl _) (by rw [hao])) ha

/-- Box k has been written. -/
theorem Heap.write {k : Nat} {b : Box} {c : Bx} (h : Heap ρ w0 M β hp w) (hk : hp.at k = some b) (hr : b.rw = true) (hv : b.c.live = true) (hok : c.ok ρ hp.n) (hl : c.lies ρ β (β k) w')
    (hother : ∀ i, i ≠ (β k).1 → w'.heap[i]? = w.heap[i]?) (hsz : w'.heap.size = w.heap.size) (hos : w'.os = w.os) (htp : w'.tape = w.tape) (hou : w'.output = w.output) (ha : c.isArr = false := by rfl) (hao : c.isObj = false := by rfl) :
    Heap ρ w0 M β (hp.put k ⟨b.rw, c⟩) w' := by
  have hlt := Hp.at_lt hk
  have cases_ : ∀ (j : Nat) (x : Box), (hp.put k ⟨b.rw, c⟩).at j = some x → (j ≠ k ∧ hp.at j = some x) ∨ (j = k ∧ x = ⟨b.rw, c⟩) := fun j x hj => by
    by_cases he : j = k
    · subst he; rw [Hp.at_put_same _ hlt] at hj; exact .inr ⟨rfl, (Option.some.inj hj).symm⟩
    · rw [Hp.at_put_ne _ he] at hj; exact .inl ⟨he, hj⟩
  refine ⟨fun j x hj => ?_, fun i j x y hi hj hx hy e => ?_, fun j x hj hrw hx => ?_, fun j x hj => ?_, ?_, fun j x hj hax => ?_, h.objs.imp fun φ ho => ho.to (fun j x hj hx => ?_) (fun j x hj hx => ?_) (fun j x i hj hx hi => hother i fun e => (ho.apart j k x b hj hk hx (fun e => ?_) i hi).1 hv e.symm)⟩
  · rcases cases_ j x hj with ⟨hne, hj'⟩ | ⟨rfl, rfl⟩
    · cases hx : x.c.live with
      | false =>
        cases hax : x.c.isArr with
        | false => exact Bx.not_live hx hax (h.lies j x hj')
        | true =>
          obtain ⟨a1, a2⟩ := h.arrs j x hj' hax
          refine Bx.lies_block (hother _ fun e => ?_) (h.lies j x hj')
          rcases h.mine k b hk hr hv with h1 | h1
          · exact a2 (e ▸ h1)
          · omega
      | true => exact Bx.lies_block (hother _ fun e => hne (h.inj j k x b hj' hk hx hv e)) (h.lies j x hj')
    · exact hl
  · rcases cases_ i x hi with ⟨hne, hi'⟩ | ⟨rfl, rfl⟩ <;> rcases cases_ j y hj with ⟨hne', hj'⟩ | ⟨rfl, rfl⟩
    · exact h.inj i j x y hi' hj' hx hy e
    · exact h.inj i j x b hi' hk hx hv e
    · exact h.inj i j b y hk hj' hv hy e
    · rfl
  · rcases cases_ j x hj with ⟨hne, hj'⟩ | ⟨rfl, rfl⟩
    · exact h.mine j x hj' hrw hx
    · exact h.mine j b hk hr hv
  · simp only [Hp.n_put]
    rcases cases_ j x hj with ⟨hne, hj'⟩ | ⟨rfl, rfl⟩
    · exact h.good j x hj'
    · exact hok
  · refine ⟨hos.trans h.kept.os, htp.trans h.kept.tape, hou.trans h.kept.output, by rw [hsz]; exact h.kept.size, fun i hi hm => ?_⟩
    rcases h.mine k b hk hr hv with h1 | h1
    · rw [hother i fun e => hm (e ▸ h1)]; exact h.kept.block i hi hm
    · rw [hother i (by omega)]; exact h.kept.block i hi hm
  · rcases cases_ j x hj with ⟨hne, hj'⟩ | ⟨rfl, rfl⟩
    · exact h.arrs j x hj' hax
    · simp only at hax; rw [ha] at hax; cases hax
  · rcases cases_ j x hj with ⟨hne, hj'⟩ | ⟨rfl, rfl⟩
    · exact ⟨x, hj', rfl, rfl⟩
    · simp only at hx; rw [hao] at hx; cases hx
  · rcases cases_ j x hj with ⟨hne, hj'⟩ | ⟨rfl, rfl⟩
    · exact .inl ⟨j, x, hj', hx, rfl⟩
    · exact .inl ⟨j, b, hk, hv, rfl⟩
  · subst e
    rw [hk] at hj
    obtain rfl := Option.some.inj hj
    rw [Bx.obj_dead hx] at hv
    cases hv
/-- What is known of box k is forgotten. -/
theorem Heap.forget (h : Heap ρ w0 M β hp w) (k : Nat) : Heap ρ w0 M β (hp.put k ⟨false, .gone⟩) w := by
  have cases_ : ∀ (j : Nat) (x : Box), (hp.put k ⟨false, .gone⟩).at j = some x → hp.at j = some x ∧ j ≠ k ∨ x = ⟨false, .gone⟩ := fun j x hj => by
    by_cases he : j = k
    · subst he
      have hlt : j < hp.n := by have := Hp.at_lt hj; simpa using this
      rw [Hp.at_put_same _ hlt] at hj; exact .inr (Option.some.inj hj).symm
    · rw [Hp.at_put_ne _ he] at hj; exact .inl ⟨hj, he⟩
  refine ⟨fun j x hj => ?_, fun i j x y hi hj hx hy e => ?_, fun j x hj hrw hx => ?_, fun j x hj => ?_, h.kept, fun j x hj hax => ?_, h.objs.imp fun φ ho => ho.to (fun j x hj hx => ?_) (fun j x hj hx => ?_) (fun _ _ _ _ _ _ => rfl)⟩
  · rcases cases_ j x hj with ⟨h', _⟩ | rfl
    · exact h.lies j x h'
    · trivial
  · rcases cases_ i x hi with ⟨hi', _⟩ | rfl
    · rcases cases_ j y hj with ⟨hj', _⟩ | rfl
      · exact h.inj i j x y hi' hj' hx hy e
      · cases hy
    · cases hx
  · rcases cases_ j x hj with ⟨h', _⟩ | rfl
    · exact h.mine j x h' hrw hx
    · cases hx
  · simp only [Hp.n_put]
    rcases cases_ j x hj with ⟨h', _⟩ | rfl
    · exact h.good j x h'
    · trivial
  · rcases cases_ j x hj with ⟨h', _⟩ | rfl
    · exact h.arrs j x h' hax
    · cases hax
  · rcases cases_ j x hj with ⟨h', _⟩ | rfl
    · exact ⟨x, h', rfl, rfl⟩
    · cases hx
  · rcases cases_ j x hj with ⟨h', _⟩ | rfl
    · exact .inl ⟨j, x, h', hx, rfl⟩
    · cases hx

theorem Heap.sees (h : Heap ρ w0 M β hp w) : Sees ρ β hp.n hp w := ⟨h.lies, h.good⟩

/-- Cells stored one behind the other. -/
theorem run_store_mid (g : Nat) (t : TypeId) : ∀ (vs : List Value) (off i : Nat) (cur : List Value) (w : World), w.heap[g]? = some (.cells cur.toArray t (0, 0)) → off + i + vs.length ≤ cur.length → (∀ v ∈ vs, v.oneCell' = true) →
    ∃ w', (storeCells ⟨g, off, none⟩ vs i).run P w = .ok () w' ∧ w'.heap[g]? = some (.cells (spliceV cur vs (off + i)).toArray t (0, 0)) ∧ (∀ j, j ≠ g → w'.heap[j]? = w.heap[j]?) ∧ w'.heap.size = w.heap.size ∧ w'.os = w.os ∧ w'.tape = w.tape ∧ w'.output = w.output
  | [], off, i, cur, w, hg, hl, _ => ⟨w, rfl, by simpa [spliceV] using hg, fun _ _ => rfl, rfl, rfl, rfl, rfl⟩
  | v :: vs, off, i, cur, w, hg, hl, h1 => by
    have hi : off + i < cur.length := by simp at hl; omega
    have hcell : w.cell? ⟨g, off + i, none⟩ = some cur[off + i] := by simp [World.cell?, hg, hi]
    have hfro : w.frozen? ⟨g, off + i, none⟩ = false := by simp [World.frozen?, hg]
    have hst : (store ((⟨g, off, none⟩ : Addr).add i) v).run P w = .ok () (w.setCell ⟨g, off + i, none⟩ v) := by
      rw [add_lit, run_store P w _ v _ (h1 v (by simp)), hcell]
      simp [hfro]
    have hg' : (w.setCell ⟨g, off + i, none⟩ v).heap[g]? = some (.cells (cur.set (off + i) v).toArray t (0, 0)) := by
      rw [heap_setCell_same w g (off + i) _ t v hg]; simp
    obtain ⟨w', r1, r2, r3, r4, r5, r6, r7⟩ := run_store_mid g t vs off (i + 1) (cur.set (off + i) v) _ hg' (by simp at hl ⊢; omega) (fun x hx => h1 x (by simp [hx]))
    refine ⟨w', ?_, ?_, fun j hj => (r3 j hj).trans (heap_setCell_other w _ j v hj), by rw [r4]; simp, r5, r6, r7⟩
    · simp only [storeCells, Sem.run_bind, hst, Result.andThen_ok, r1]
    · rw [spliceV_cons _ _ _ _ hl]; exact r2
theorem spliceV_append (l m rest : List Value) (off : Nat) (h : off + m.length ≤ l.length) : spliceV (l ++ rest) m off = spliceV l m off ++ rest := by
  unfold spliceV
  rw [List.take_append_of_le_length (by omega), List.drop_append_of_le_length (by omega)]
  simp
theorem length_spliceV (l m : List Value) (off : Nat) (h : off + m.length ≤ l.length) : (spliceV l m off).length = l.length := by
  simp [spliceV]; omega
/-- A store into box k. -/
theorem Heap.store {k off : Nat} {rw_ : Bool} {c cs : List SV} {ty : TypeId} {tail : Nat} (h : Heap ρ w0 M β hp w) (hk : hp.at k = some ⟨rw_, .cells c ty tail⟩) (hr : rw_ = true) (hle : off + cs.length ≤ c.length)
    (hone : ∀ s ∈ cs, s.one = true) (hok : SV.oks ρ hp.n cs) :
    ∃ w', (storeCells ⟨(β k).1, off, none⟩ (SV.evs ρ β cs)).run P w = .ok () w' ∧ Heap ρ w0 M β (hp.put k ⟨true, .cells (splice c cs off) ty tail⟩) w' := by
  subst hr
  have hl := h.lies _ _ hk
  have hgood : SV.oks ρ hp.n c := h.good _ _ hk
  obtain ⟨rest, hg⟩ := Bx.lies_cells hl
  have hones : ∀ v ∈ SV.evs ρ β cs, v.oneCell' = true := fun v hv => by
    rw [SV.evs_map] at hv
    obtain ⟨s, hs, rfl⟩ := List.mem_map.1 hv
    exact SV.one_ev ρ β (hone s hs)
  have hlen : (SV.evs ρ β cs).length = cs.length := by rw [SV.evs_map]; simp
  have hlc : (SV.evs ρ β c).length = c.length := by rw [SV.evs_map]; simp
  obtain ⟨w', r1, r2, r3, r4, r5, r6, r7⟩ := run_store_mid (P := P) (β k).1 ty (SV.evs ρ β cs) off 0 _ w hg (by simp [hlen, hlc]; omega) hones
  refine ⟨w', r1, ?_⟩
  refine h.write hk rfl rfl (oks_splice hgood hok off) ?_ r3 r4 r5 r6 r7
  simp only [Nat.add_zero] at r2
  rw [spliceV_append _ _ _ _ (by rw [hlen, hlc]; exact hle), ← evs_splice] at r2
  cases tail with
  | zero =>
    simp only [Bx.lies] at hl ⊢
    rw [hl] at hg
    have : rest = [] := by simpa using hg
    subst this
    simpa using r2
  | succ s =>
    obtain ⟨rest', h1, h2⟩ := hl
    rw [h1] at hg
    have : rest' = rest := by simpa using hg
    subst this
    exact ⟨rest', r2, by rw [length_splice hle]; exact h2⟩
end
end Go.Proofs.YtfcpmapfhgibpaaDoor.SX
namespace Go.Proofs.YtfcpmapfhgibpaaDoor.SX
open Go Go.RowKit
set_option linter.unusedVariables false
set_option linter.unusedSimpArgs false

abbrev Fs := List (E × Bool)
/-- What an operation or a call comes to: the value, the heap, what is known by now. -/
structure Out where
  v : SV
  hp : Hp
  fs : Fs
/-- How functions are called: the function, the arguments, the heap, what is known. -/
abbrev Caller := FuncId → List SV → Hp → Fs → T Out

section
variable (P : Program)
/-- A new box of cells. -/
def newBox (hp : Hp) (fs : Fs) (cs : List SV) (ty : TypeId) (v : Nat → SV) : T Out := .ok ⟨v hp.n, hp.push ⟨true, .cells cs ty 0⟩, fs⟩
def allocS (hp : Hp) (fs : Fs) (e : TypeId) : T Out :=
  match zeroS P e with
  | some z => newBox hp fs z e fun n => .ptr n 0
  | none => .bad 1
def boxS (hp : Hp) (fs : Fs) (e : TypeId) (s : SV) : T Out :=
  match s.cells? with
  | some cs => newBox hp fs cs e fun n => .ptr n 0
  | none => .bad 2
def repS (n : Nat) (z : List SV) : List SV := (List.range (n * z.length)).map fun i => z.getD (i % z.length) undefS
def buildSliceS (hp : Hp) (fs : Fs) (t : TypeId) (len : Nat) (parts : List (Nat × SV)) : T Out :=
  match P.underlying t with
  | some (.slice e) => match szOf P e, zeroS P e with
    | some n, some z => if len * n > 2 ^ 24 ∨ z.length ≠ n then .bad 3 else match fillS (fun i => some (i * n, n)) (repS len z) parts with
      | some cs => newBox hp fs cs e fun k => .slice k 0 len (some len)
      | none => .bad 4
    | _, _ => .bad 5
  | _ => .bad 6
def storeS (hp : Hp) (fs : Fs) (t : TypeId) (a x : SV) : T Out :=
  match a, x.cells?, szOf P t with
  | .ptr b off, some cs, some n => match hp.at b with
    | some ⟨true, .cells c ty tail⟩ => if cs.length = n ∧ off + cs.length ≤ c.length ∧ cs.all SV.one then .ok ⟨undefS, hp.put b ⟨true, .cells (splice c cs off) ty tail⟩, fs⟩ else .bad 7
    | _ => .bad 8
  | _, _, _ => .bad 9
def makeSliceS (hp : Hp) (fs : Fs) (t : TypeId) (l c : SV) : T Out :=
  match P.underlying t, natLit l, natLit c with
  | some (.slice e), some l, some c => match P.info? e, zeroS P e with
    | some i, some z => if l ≤ c ∧ c < 1000000 ∧ i.bytes * c ≤ 1000000 ∧ z.length = i.size then newBox hp fs (repS c z) e fun k => .slice k 0 l (some c) else .bad 10
    | _, _ => .bad 11
  | _, _, _ => .bad 12
/-- A slice's cells: the box's number, its place, and the cells from the slice's head on; a nil slice has none. -/
def rowS (hp : Hp) (n size : Nat) (s : SV) : Option (List SV) :=
  match s with
  | .raw (.slice none _ _) => if n = 0 then some [] else none
  | .slice b off _ _ => match cellsAt hp b with
    | some c => if off + n * size ≤ c.length then some ((c.drop off).take (n * size)) else none
    | none => none
  | _ => none
def cutS (hp : Hp) (fs : Fs) (t : TypeId) (x : SV) (lo : Option SV) : T Out :=
  match P.underlying t, x with
  | some (.slice e), .slice b 0 len none => match szOf P e, hp.at b, boundS lo 0 len with
    | some z, some ⟨_, .cells c _ (s + 1)⟩, some l => if s = z ∧ c.length = len * z ∧ 0 < z then
        (if l < len then .ok ⟨.slice hp.n (l * z) (len - l) none, hp.push ⟨false, .view b l⟩, fs⟩
        else if l = len then .both (.ok ⟨.slice hp.n 0 0 none, hp.push ⟨false, .view b l⟩, fs⟩) (.ok ⟨.slice hp.n (l * z) 0 none, hp.push ⟨false, .view b l⟩, fs⟩) else .bad 133)
      else .bad 130
    | _, _, _ => .bad 131
  | _, _ => .bad 132
/-- The front of a row whose room is not known. -/
def sliceH (hp : Hp) (t : TypeId) (x : SV) (lo hi : Option SV) : Option SV :=
  match x, lo, hi with
  | .slice b 0 len none, none, some y => match P.underlying t with
    | some (.slice e) => match szOf P e, hp.at b, natLit y with
      | some z, some ⟨_, .cells c _ (s + 1)⟩, some h => if h ≤ len ∧ s = z ∧ c.length = len * z ∧ 0 < z then some (.slice b 0 h none) else none
      | _, _, _ => none
    | _ => none
  | x, lo, hi => sliceS P t x lo hi none
def lenS (s : SV) : Option Nat :=
  match s with
  | .raw (.slice none n _) => some n
  | .slice _ _ n _ => some n
  | _ => none
def copyS (hp : Hp) (fs : Fs) (ts : Array TypeId) (d s : SV) : T Out :=
  match ts[0]? with
  | some t => match P.underlying t, d, lenS s with
    | some (.slice e), .slice b off dl _, some sl => match szOf P e with
      | some z => match rowS hp (Nat.min sl dl) z s, hp.at b with
        | some cs, some ⟨true, .cells c ty tail⟩ => if off + cs.length ≤ c.length ∧ cs.all SV.one then
            match intLit (Nat.min sl dl) with
            | some v => .ok ⟨v, hp.put b ⟨true, .cells (splice c cs off) ty tail⟩, fs⟩
            | none => .bad 13
          else .bad 14
        | _, _ => .bad 15
      | none => .bad 16
    | _, _, _ => .bad 17
  | none => .bad 18
end

section
variable {P : Program} {ρ : Env} {w0 : World} {M : Nat → Prop} {β : Bm} {w : World} {hp : Hp} {fs : Fs}

/-- Boxes that may not be written stay as they are. -/
def Stay (hp hp' : Hp) : Prop := ∀ (k : Nat) (b : Box), hp.at k = some b → b.rw = false → hp'.at k = some b
theorem Stay.refl (hp : Hp) : Stay hp hp := fun _ _ h _ => h
theorem Stay.trans {a b c : Hp} (h : Stay a b) (h' : Stay b c) : Stay a c := fun k x hx hr => h' k x (h k x hx hr) hr
theorem Stay.push (hp : Hp) (b : Box) : Stay hp (hp.push b) := fun k x hx _ => by
  rw [Hp.at_push_lt _ (Hp.at_lt hx)]; exact hx
theorem Stay.set {hp : Hp} {k : Nat} {b c : Box} (hk : hp.at k = some b) (hr : b.rw = true) : Stay hp (hp.put k c) := fun j x hx hrx => by
  by_cases he : k = j
  · subst he; rw [hk] at hx; obtain rfl := Option.some.inj hx; rw [hr] at hrx; cases hrx
  · rw [Hp.at_put_ne _ (Ne.symm he)]; exact hx
/-- What must be shown of the ways of an operation: from each of them the rest goes on. -/
def Goes (ρ : Env) (w0 : World) (M : Nat → Prop) (β : Bm) (hp : Hp) (t : T Out) (K : Value → World → Prop) : Prop :=
  t.holds ρ fun o => ∀ (β' : Bm) (w' : World), Ext hp.n β β' → hp.n ≤ o.hp.n → Stay hp o.hp → Heap ρ w0 M β' o.hp w' → (∀ p ∈ o.fs, (p.1.ev ρ ≠ 0 ↔ p.2 = true)) → o.v.ok ρ o.hp.n → K (o.v.ev ρ β') w'

theorem newBox_run {cs : List SV} {ty : TypeId} {v : Nat → SV} {K : Value → World → Prop} (h : Heap ρ w0 M β hp w) (hf : ∀ p ∈ fs, (p.1.ev ρ ≠ 0 ↔ p.2 = true)) (hcs : SV.oks ρ hp.n cs) (hv : (v hp.n).ok ρ (hp.n + 1))
    (hk : Goes ρ w0 M β hp (newBox hp fs cs ty v) K) : K ((v hp.n).ev ρ (upd β hp.n (w.heap.size, 0))) (w.alloc (.cells (SV.evs ρ β cs).toArray ty)) := by
  refine hk (upd β hp.n (w.heap.size, 0)) _ (upd_ext _ _ _) (by simp) (Stay.push _ _) ?_ hf (by simpa using hv)
  refine h.alloc (b := .cells cs ty 0) (SV.oks_mono (Nat.le_succ _) _ hcs) ?_
  simp only [Bx.lies]
  rw [SV.evs_ext (upd_ext _ _ _) cs hcs]
  exact heap_alloc_new w _

theorem allocS_run {e : TypeId} {K : Value → World → Prop} (h : Heap ρ w0 M β hp w) (hf : ∀ p ∈ fs, (p.1.ev ρ ≠ 0 ↔ p.2 = true)) (hk : Goes ρ w0 M β hp (allocS P hp fs e) K) :
    ∃ v w', (Instr.alloc e true (.tuple #[])).run P w = .ok v w' ∧ K v w' := by
  unfold allocS at hk
  split at hk
  · rename_i z hz
    obtain ⟨⟨i, v, hi, hv, hc⟩, hok⟩ := zeroS_spec hz
    refine ⟨_, _, ?_, newBox_run (v := fun n => .ptr n 0) h hf (hok ρ _) (Nat.lt_succ_self _) hk⟩
    simp only [Instr.alloc, zeroValue, typeInfo, Sem.run_bind, run_program, Result.andThen_ok, hi, hv, Sem.run_pure, newVar, newRow, hc ρ β, run_newObj, World.alloc_eq, SV.ev, upd_same]
  · exact hk.elim
theorem boxS_run {e : TypeId} {s : SV} {K : Value → World → Prop} (h : Heap ρ w0 M β hp w) (hf : ∀ p ∈ fs, (p.1.ev ρ ≠ 0 ↔ p.2 = true)) (hs : s.ok ρ hp.n) (hk : Goes ρ w0 M β hp (boxS hp fs e s) K) :
    ∃ v w', (Instr.box e (s.ev ρ β)).run P w = .ok v w' ∧ K v w' := by
  unfold boxS at hk
  split at hk
  · rename_i cs hcs
    obtain ⟨h1, h2⟩ := SV.cells_spec hcs ρ β
    refine ⟨_, _, ?_, newBox_run (v := fun n => .ptr n 0) h hf (h2 _ hs) (Nat.lt_succ_self _) hk⟩
    simp only [Instr.box, Sem.run_bind, Result.andThen_ok, Sem.run_pure, newVar, newRow, h1, run_newObj, World.alloc_eq, SV.ev, upd_same]
  · exact hk.elim
theorem length_repS (n : Nat) (z : List SV) : (repS n z).length = n * z.length := by simp [repS]
theorem oks_repS {n m : Nat} {z : List SV} (h : SV.oks ρ n z) : SV.oks ρ n (repS m z) := by
  rw [SV.oks_mem] at *
  intro s hs
  obtain ⟨i, _, rfl⟩ := List.mem_map.1 hs
  rw [List.getD]
  cases hz : z[i % z.length]? with
  | none => trivial
  | some s => exact h s (List.mem_of_getElem? hz)
theorem evs_repS (n : Nat) (z : List SV) : (SV.evs ρ β (repS n z)).toArray = (Array.range (n * z.length)).map fun i => (SV.evs ρ β z).toArray[i % (SV.evs ρ β z).toArray.size]! := by
  have hl : (SV.evs ρ β z).length = z.length := by rw [SV.evs_map]; simp
  apply Array.ext'
  simp only [SV.evs_map, repS, List.map_map, Array.toList_map, Array.toList_range, List.size_toArray, List.length_map]
  refine List.map_congr_left fun i hi => ?_
  have hlt : i % z.length < z.length := by
    have := List.mem_range.1 hi
    refine Nat.mod_lt _ ?_
    rcases Nat.eq_zero_or_pos z.length with h0 | h0
    · rw [h0] at this; simp at this
    · exact h0
  simp only [Function.comp_apply, List.getD, List.getElem?_eq_getElem hlt, Option.getD_some]
  simp [hlt]
theorem buildSliceS_run {t : TypeId} {len : Nat} {parts : Array (Nat × SV)} {K : Value → World → Prop} (h : Heap ρ w0 M β hp w) (hf : ∀ p ∈ fs, (p.1.ev ρ ≠ 0 ↔ p.2 = true)) (hp' : ∀ p ∈ parts.toList, p.2.ok ρ hp.n)
    (hk : Goes ρ w0 M β hp (buildSliceS P hp fs t len parts.toList) K) : ∃ v w', (Instr.buildSlice t len (parts.map fun p => (p.1, p.2.ev ρ β))).run P w = .ok v w' ∧ K v w' := by
  unfold buildSliceS at hk
  split at hk
  · rename_i e hu
    split at hk
    · rename_i n z hn hz
      split at hk
      · exact hk.elim
      · rename_i hc
        obtain ⟨⟨i, v, hi, hv, hc1⟩, hok⟩ := zeroS_spec hz
        split at hk
        · rename_i cs hcs
          obtain ⟨q1, q2, q3⟩ := fillS_spec (β := β) (oks_repS (m := len) (hok ρ hp.n)) hp' hcs
          have hzl : z.length = n := by omega
          refine ⟨_, _, ?_, newBox_run (v := fun k => .slice k 0 len (some len)) h hf q2 (Nat.lt_succ_self _) hk⟩
          rw [evs_repS, hzl] at q1
          have hpl : (parts.map fun p => (p.1, p.2.ev ρ β)).toList = parts.toList.map fun p => (p.1, p.2.ev ρ β) := by simp
          simp only [Instr.buildSlice, Sem.run_bind, run_underlying hu w, Result.andThen_ok, szOf_run hn w, Sem.run_ite, if_neg (show ¬ len * n > 2 ^ 24 by omega), Sem.run_pure]
          rw [hpl]
          by_cases h0 : len * n = 0
          · have e1 : (Array.range (len * n)).map (fun i => (SV.evs ρ β z).toArray[i % (SV.evs ρ β z).toArray.size]!) = #[] := by rw [h0]; simp
            have e2 : (Array.range (len * n)).map (fun i => (#[] : Array Value)[i % (#[] : Array Value).size]!) = #[] := by rw [h0]; simp
            rw [e1] at q1
            simp only [h0, if_true, Sem.run_pure, Result.andThen_ok]
            simp only [h0] at e2
            rw [e2, q1]
            simp only [newRow, Sem.run_bind, run_newObj, Result.andThen_ok, Sem.run_pure, World.alloc_eq, SV.ev, upd_same, Option.getD_some]
          · simp only [h0, if_false, zeroValue, typeInfo, Sem.run_bind, run_program, Result.andThen_ok, hi, hv, Sem.run_pure, hc1 ρ β]
            rw [q1]
            simp only [newRow, Sem.run_bind, run_newObj, Result.andThen_ok, Sem.run_pure, World.alloc_eq, SV.ev, upd_same, Option.getD_some]
        · exact hk.elim
    · exact hk.elim
  · exact hk.elim
theorem storeS_run {t : TypeId} {a x : SV} {K : Value → World → Prop} (h : Heap ρ w0 M β hp w) (hf : ∀ p ∈ fs, (p.1.ev ρ ≠ 0 ↔ p.2 = true)) (hx : x.ok ρ hp.n) (hk : Goes ρ w0 M β hp (storeS P hp fs t a x) K) :
    ∃ w', (Instr.storeAt t (a.ev ρ β) (x.ev ρ β)).run P w = .ok () w' ∧ K undef w' := by
  unfold storeS at hk
  split at hk
  · rename_i b off cs n hcs hn
    split at hk
    · rename_i c ty tail hb
      split at hk
      · rename_i hc
        obtain ⟨hc1, hc2, hc3⟩ := hc
        obtain ⟨h1, h2⟩ := SV.cells_spec hcs ρ β
        obtain ⟨w', r1, r2⟩ := Heap.store (P := P) h hb rfl hc2 (fun s hs => List.all_eq_true.1 hc3 s hs) (h2 _ hx)
        refine ⟨w', ?_, hk β w' (Ext.refl _ _) (by simp) (Stay.set hb rfl) r2 hf trivial⟩
        have hsz : (SV.evs ρ β cs).toArray.size = n := by rw [SV.evs_map]; simpa using hc1
        simp only [Instr.storeAt, SV.ev, Instr.sureAddr, Sem.run_bind, Sem.run_pure, Result.andThen_ok, storeVar, szOf_run hn w, h1, hsz, ne_eq, not_true_eq_false, if_false]
        simpa using r1
      · exact hk.elim
    · exact hk.elim
  · exact hk.elim
end
end Go.Proofs.YtfcpmapfhgibpaaDoor.SX
namespace Go.Proofs.YtfcpmapfhgibpaaDoor.SX
open Go Go.RowKit
set_option linter.unusedVariables false
set_option linter.unusedSimpArgs false

section
variable (P : Program)
/-- Cells of an input array, one behind the other. -/
def rowI (hp : Hp) (k z off : Nat) (len0 : E) (m : Nat) : Option (List SV) :=
  match hp.at k with
  | some ⟨_, .arr a ks len0'⟩ => if z = ks.length ∧ len0.beq len0' = true ∧ 0 < z ∧ off % z = 0 then some ((List.range (m * z)).map fun j => match ks[j % z]? with
      | some l => l.rd a (j % z) (.lit (Int.ofNat (off / z + j / z)))
      | none => undefS) else none
  | _ => none
/-- A slice's length: that of an input slice may be known. -/
def lenX (fs : Fs) (x : SV) : Option Nat :=
  match x with
  | .inp _ _ _ _ len _ => match canon fs len with
    | .lit (.ofNat m) => some m
    | _ => none
  | x => lenS x
def rowX (hp : Hp) (m z : Nat) (x : SV) : Option (List SV) :=
  match x with
  | .inp k z' off len0 _ _ => if z' = z then rowI hp k z off len0 m else none
  | x => rowS hp m z x
/-- The cells of an appended slice, and how many elements they are. -/
def appendS (hp : Hp) (fs : Fs) (ts : Array TypeId) (s x : SV) : T Out :=
  match ts[0]?, ts[1]?, lenS s, lenX fs x with
  | some t, some u, some n, some m => if t = u then match P.underlying t with
    | some (.slice e) => match P.info? e, zeroS P e with
      | some i, some z => match rowS hp n i.size s, rowX hp m i.size x with
        | some olds, some news =>
          if m = 0 then
            match s with
            | .raw (.slice none 0 0) => .ok ⟨s, hp, fs⟩
            | .slice _ _ l (some cap) => if l ≤ cap then .ok ⟨s, hp, fs⟩ else .bad 59
            | .slice b _ l none => match hp.at b with
              | some ⟨_, .cells c _ (tl + 1)⟩ => if 0 < tl ∧ l * tl ≤ c.length then .ok ⟨s, hp, fs⟩ else .bad 57
              | _ => .bad 56
            | _ => .bad 58
          else if z.length = i.size ∧ 0 < m ∧ n + m < 1000000 ∧ (n + m) * i.bytes ≤ 100000000 then
            match s with
            | .raw (.slice none 0 0) => .ok ⟨.slice hp.n 0 m none, hp.push ⟨true, .cells news e (i.size + 1)⟩, fs⟩
            | .slice b off _ (some cap) => if n + m ≤ cap then
                match hp.at b with
                | some ⟨true, .cells c ty tail⟩ => if off + n * i.size + news.length ≤ c.length ∧ news.all SV.one then .ok ⟨.slice b off (n + m) (some cap), hp.put b ⟨true, .cells (splice c news (off + n * i.size)) ty tail⟩, fs⟩ else .bad 60
                | _ => .bad 61
              else .ok ⟨.slice hp.n 0 (n + m) none, hp.push ⟨true, .cells (olds ++ news) e (i.size + 1)⟩, fs⟩
            | .slice b off _ none => match hp.at b with
              | some ⟨true, .cells c ty tail⟩ => if off = 0 ∧ ty = e ∧ tail = i.size + 1 ∧ c.length = n * i.size ∧ news.all SV.one then .ok ⟨.slice hp.n 0 (n + m) none, (hp.put b ⟨false, .gone⟩).push ⟨true, .cells (olds ++ news) e (i.size + 1)⟩, fs⟩ else .bad 62
              | _ => .bad 63
            | _ => .bad 64
          else .bad 65
        | _, _ => .bad 66
      | _, _ => .bad 67
    | _ => .bad 68
    else .bad 69
  | _, _, _, _ => .bad 70
def copyI (hp : Hp) (fs : Fs) (ts : Array TypeId) (d : SV) (k z off : Nat) (len0 len : E) : T Out :=
  match ts[0]?, canon fs len with
  | some t, .lit (.ofNat sl) => match P.underlying t, d with
    | some (.slice e), .slice b off' dl _ => match szOf P e with
      | some z' => match rowI hp k z off len0 (Nat.min sl dl), hp.at b with
        | some cs, some ⟨true, .cells c ty tail⟩ => if z' = z ∧ off' + cs.length ≤ c.length ∧ cs.all SV.one then
            match intLit (Nat.min sl dl) with
            | some v => .ok ⟨v, hp.put b ⟨true, .cells (splice c cs off') ty tail⟩, fs⟩
            | none => .bad 213
          else .bad 214
        | _, _ => .bad 215
      | none => .bad 216
    | _, _ => .bad 217
  | _, _ => .bad 218
def litF (fs : Fs) (s : SV) : SV :=
  match s with
  | .int k e => match canon fs e with
    | .lit n => .int k (.lit n)
    | _ => .int k e
  | s => s
def makeMapS (hp : Hp) (fs : Fs) : T Out := .ok ⟨.map hp.n, hp.push ⟨true, .map [] 0⟩, fs⟩
abbrev Ents := List (SV × SV × Nat)
/-- The entry of a key, way by way. -/
def findS (k : IntKind) (a : E) (f : Fs → Option (Nat × SV) → T Out) : Ents → Nat → Fs → T Out
  | [], _, fs => f fs none
  | (.int j e, v, _) :: es, i, fs => if kTag k = kTag j then split fs (mk .eq k a e) (fun fs => f fs (some (i, v))) (fun fs => findS k a f es (i + 1) fs) else .bad 71
  | _, _, _ => .bad 72
def mapOf (hp : Hp) (m : SV) : Option (Nat × Bool × Ents × Nat) :=
  match m with
  | .map b => match hp.at b with
    | some ⟨r, .map es clock⟩ => some (b, r, es, clock)
    | _ => none
  | _ => none
def lookupS (hp : Hp) (fs : Fs) (t : TypeId) (m key : SV) (commaOk : Bool) : T Out :=
  match P.underlying t, mapOf hp m, key with
  | some (.map kt et), some (_, _, es, _), .int k a => match P.underlying kt, P.info? et with
    | some (.int _), some i => match i.zero with
      | some z => findS k a (fun fs r => .ok ⟨match r with
          | some (_, v) => if commaOk then .tuple [v, .bool (.lit 1)] else v
          | none => if commaOk then .tuple [ofValue z, .bool (.lit 0)] else ofValue z, hp, fs⟩) es 0 fs
      | none => .bad 73
    | _, _ => .bad 74
  | _, _, _ => .bad 75
def updateS (hp : Hp) (fs : Fs) (t : TypeId) (m key x : SV) : T Out :=
  match P.underlying t, mapOf hp m, key with
  | some (.map kt et), some (b, true, es, clock), .int k (.lit a) => match P.underlying kt with
    | some (.int _) => findS k (.lit a) (fun fs r => match r with
        | some (i, _) => match es[i]? with
          | some (.int j (.lit a'), _, born) => if kTag k = kTag j ∧ a = a' then .ok ⟨undefS, hp.put b ⟨true, .map (es.set i (.int k (.lit a), x, born)) clock⟩, fs⟩ else .bad 76
          | _ => .bad 77
        | none => .ok ⟨undefS, hp.put b ⟨true, .map (es ++ [(.int k (.lit a), x, clock)]) (clock + 1)⟩, fs⟩) es 0 fs
    | _ => .bad 78
  | _, _, _ => .bad 79
def mapLenS (hp : Hp) (fs : Fs) (ts : Array TypeId) (m : SV) : T Out :=
  match ts[0]?, mapOf hp m with
  | some t, some (_, _, es, _) => match P.underlying t, intLit es.length with
    | some (.map _ _), some v => .ok ⟨v, hp, fs⟩
    | _, _ => .bad 80
  | _, _ => .bad 81
end

section
variable {P : Program} {ρ : Env} {w0 : World} {M : Nat → Prop} {β : Bm} {w : World} {hp : Hp} {fs : Fs}

theorem makeSliceS_run {t : TypeId} {l c : SV} {K : Value → World → Prop} (h : Heap ρ w0 M β hp w) (hf : ∀ p ∈ fs, (p.1.ev ρ ≠ 0 ↔ p.2 = true)) (hk : Goes ρ w0 M β hp (makeSliceS P hp fs t l c) K) :
    ∃ v w', (Instr.makeSlice t (l.ev ρ β) (c.ev ρ β)).run P w = .ok v w' ∧ K v w' := by
  unfold makeSliceS at hk
  split at hk
  · rename_i e l' c' hu hl hc
    obtain ⟨kl, rfl⟩ := natLit_spec hl
    obtain ⟨kc, rfl⟩ := natLit_spec hc
    split at hk
    · rename_i i z hi hz
      split at hk
      · rename_i hcond
        obtain ⟨h1, h2, h3, h4⟩ := hcond
        obtain ⟨⟨i', v, hi', hv, hc1⟩, hok⟩ := zeroS_spec hz
        obtain rfl : i = i' := by rw [hi] at hi'; exact Option.some.inj hi'
        refine ⟨_, _, ?_, newBox_run (v := fun k => .slice k 0 l' (some c')) h hf (oks_repS (m := c') (hok ρ hp.n)) (Nat.lt_succ_self _) hk⟩
        rw [evs_repS, h4]
        have wl : IntKind.i64.wrap (l' : Int) = l' := by rw [IntKind.wrap_i64]; omega
        have wc : IntKind.i64.wrap (c' : Int) = c' := by rw [IntKind.wrap_i64]; omega
        have hb : ((i.bytes : Int) * (c' : Int)) ≤ 1000000 := by
          have : ((i.bytes * c' : Nat) : Int) ≤ 1000000 := by omega
          rwa [Int.natCast_mul] at this
        have n1 : ¬ ((c' : Int) < 0) := by omega
        have n2 : ¬ ((281474976710656 : Int) < (i.bytes : Int) * (c' : Int)) := by omega
        have n3 : ¬ ((l' : Int) < 0) := by omega
        have n4 : ¬ ((c' : Int) < (l' : Int)) := by omega
        have hsz : (sizeOf e).run P w = .ok i.size w := by simp [sizeOf, typeInfo, hi]
        by_cases h0 : c' * i.size = 0
        · have e1 : (Array.range (c' * i.size)).map (fun j => (SV.evs ρ β z).toArray[j % (SV.evs ρ β z).toArray.size]!) = #[] := by rw [h0]; simp
          rw [e1]
          simp [Instr.makeSlice, run_underlying hu w, asInt, asIntOf, SV.ev, E.ev, typeInfo, hi, wl, wc, n1, n2, n3, n4, hsz, h0, newRow, upd_same]
          have e2 : Array.map (fun _ : Nat => (default : Value)) (Array.range 0) = #[] := by simp
          rw [e2]
        · simp [Instr.makeSlice, run_underlying hu w, asInt, asIntOf, SV.ev, E.ev, typeInfo, hi, wl, wc, n1, n2, n3, n4, hsz, h0, newRow, upd_same, zeroValue, hv, hc1 ρ β]
      · exact hk.elim
    · exact hk.elim
  · exact hk.elim

theorem lenS_spec {s : SV} {m : Nat} (h : lenS s = some m) : (∃ c, s = .raw (.slice none m c)) ∨ ∃ b off c, s = .slice b off m c := by
  unfold lenS at h
  split at h
  · obtain rfl := Option.some.inj h; exact .inl ⟨_, rfl⟩
  · obtain rfl := Option.some.inj h; exact .inr ⟨_, _, _, rfl⟩
  · cases h
theorem run_lenOf {s : SV} {m : Nat} (h : lenS s = some m) (w : World) : (Builtin.lenOf (s.ev ρ β)).run P w = .ok m w := by
  rcases lenS_spec h with ⟨c, rfl⟩ | ⟨b, off, c, rfl⟩ <;> rfl
theorem rowS_run {s : SV} {cs : List SV} {m z : Nat} (hs : Heap ρ w0 M β hp w) (h : rowS hp m z s = some cs) : (Builtin.firstCells z m (s.ev ρ β)).run P w = .ok (SV.evs ρ β cs).toArray w ∧ SV.oks ρ hp.n cs ∧ cs.length = m * z ∧
    (∀ b off l c, s = .slice b off l c → ∀ j v, (SV.evs ρ β cs)[j]? = some v → w.cell? ((⟨(β b).1, off, none⟩ : Addr).add j) = some v) := by
  unfold rowS at h
  split at h
  · split at h
    · rename_i hm
      obtain rfl := Option.some.inj h
      subst hm
      exact ⟨rfl, trivial, by simp, fun _ _ _ _ e => by cases e⟩
    · cases h
  · rename_i b off l c
    split at h
    · rename_i d hd
      split at h
      · rename_i hle
        obtain rfl := Option.some.inj h
        obtain ⟨hg, hgood⟩ := cellsAt_spec hs.sees hd
        have hlen : ((d.drop off).take (m * z)).length = m * z := by simp; omega
        have hlenv : (SV.evs ρ β ((d.drop off).take (m * z))).length = m * z := by rw [SV.evs_map]; simpa using hlen
        have hcell : ∀ j v, (SV.evs ρ β ((d.drop off).take (m * z)))[j]? = some v → w.cell? ((⟨(β b).1, off, none⟩ : Addr).add j) = some v := fun j v hv => by
          rw [add_lit]
          have hj : j < m * z := by rw [← hlenv]; exact (List.getElem?_eq_some_iff.1 hv).1
          rw [SV.evs_map, List.getElem?_map, List.getElem?_take, if_pos hj, List.getElem?_drop] at hv
          refine hg _ _ ?_
          rw [SV.evs_map, List.getElem?_map]
          exact hv
        refine ⟨?_, oks_part hgood _ _, hlen, fun b' off' l' c' e => by cases e; exact hcell⟩
        simp only [SV.ev]
        exact run_firstCells_some w z m _ _ _ _ hlenv hcell
      · cases h
    · cases h
  · cases h
theorem copyS_run {ts : Array TypeId} {d s : SV} {K : Value → World → Prop} (h : Heap ρ w0 M β hp w) (hf : ∀ p ∈ fs, (p.1.ev ρ ≠ 0 ↔ p.2 = true)) (ty : TypeId) (hk : Goes ρ w0 M β hp (copyS P hp fs ts d s) K) :
    ∃ v w', (Builtin.copy_ ts ty #[d.ev ρ β, s.ev ρ β]).run P w = .ok v w' ∧ K v w' := by
  unfold copyS at hk
  split at hk
  · rename_i t ht
    split at hk
    · rename_i e b off dl cap sl hu hsl
      split at hk
      · rename_i z hz
        split at hk
        · rename_i cs c ty' tail hcs hb
          split at hk
          · rename_i hcond
            split at hk
            · rename_i v hv
              obtain ⟨r1, r2, r3, r4⟩ := rowS_run (P := P) h hcs
              obtain ⟨w', s1, s2⟩ := Heap.store (P := P) h hb rfl hcond.1 (fun x hx => List.all_eq_true.1 hcond.2 x hx) r2
              obtain ⟨v1, v2⟩ := intLit_spec (ρ := ρ) (β := β) (n := (hp.put b ⟨true, .cells (splice c cs off) ty' tail⟩).n) hv
              refine ⟨_, w', ?_, hk β w' (Ext.refl _ _) (by simp) (Stay.set hb rfl) s2 hf v2⟩
              have hmin : Nat.min sl dl = min sl dl := rfl
              simp only [Builtin.copy_, ht, SV.ev]
              simp only [List.getElem?_toArray, List.getElem?_cons_zero, List.getElem?_cons_succ, Sem.run_bind, run_underlying hu w, Result.andThen_ok, run_lenOf (P := P) hsl w, szOf_run hz w, r1, s1, Sem.run_pure, goInt, v1]
            · exact hk.elim
          · exact hk.elim
        · exact hk.elim
      · exact hk.elim
    · exact hk.elim
  · exact hk.elim

theorem litF_spec (hf : FsOk ρ fs) (s : SV) {n : Nat} : (litF fs s).ev ρ β = s.ev ρ β ∧ (s.ok ρ n → (litF fs s).ok ρ n) := by
  unfold litF
  split
  · rename_i k e
    split
    · rename_i m hm
      have := canon_ev (ρ := ρ) (fs := fs) hf e
      rw [hm] at this
      simp only [SV.ev, SV.ok, this]
      exact ⟨trivial, id⟩
    · exact ⟨rfl, id⟩
  · exact ⟨rfl, id⟩
theorem rowI_run {k z off m : Nat} {len0 len cap : E} {cs : List SV} (hs : Heap ρ w0 M β hp w) (hk : (SV.inp k z off len0 len cap).ok ρ hp.n) (hm : m ≤ (len.ev ρ).toNat) (h : rowI hp k z off len0 m = some cs) :
    (Builtin.firstCells z m ((SV.inp k z off len0 len cap).ev ρ β)).run P w = .ok (SV.evs ρ β cs).toArray w ∧ SV.oks ρ hp.n cs ∧ cs.length = m * z ∧
      (∀ j v, (SV.evs ρ β cs)[j]? = some v → w.cell? ((⟨(β k).1, (β k).2 + off, none⟩ : Addr).add j) = some v) := by
  unfold rowI at h
  split at h
  · rename_i rw_ a ks len0' hb
    split at h
    · rename_i hc
      obtain ⟨hz, hl0, hz0, hoff⟩ := hc
      obtain rfl := E.beq_eq _ _ hl0
      obtain rfl := Option.some.inj h
      have hl := hs.lies k _ hb
      simp only [Bx.lies] at hl
      obtain ⟨k1, k2, k3, k4, k5⟩ := hk
      have hod : off / z * z = off := by have := Nat.div_add_mod off z; rw [Nat.mul_comm]; omega
      have key : ∀ j, j < m * z → ∃ l : Lk, ks[j % z]? = some l ∧ w.cell? ⟨(β k).1, (β k).2 + off + j, none⟩ = some (l.val (ρ.rd a (l.code (j % z)) (Int.ofNat (off / z + j / z)))) ∧ l.fits (ρ.rd a (l.code (j % z)) (Int.ofNat (off / z + j / z))) := fun j hj => by
        have hjz : j % z < ks.length := by rw [← hz]; exact Nat.mod_lt _ hz0
        have hjd : j / z < m := Nat.div_lt_of_lt_mul (by rwa [Nat.mul_comm] at hj)
        have h1 : (off / z + j / z + 1) * z ≤ (len0.ev ρ).toNat * z := by
          have h2 := Nat.mul_le_mul_right z (show j / z + 1 ≤ (len.ev ρ).toNat by omega)
          rw [Nat.add_mul, Nat.add_mul] at *
          omega
        have h3 : off / z + j / z < (len0.ev ρ).toNat := Nat.le_of_mul_le_mul_right h1 hz0
        refine ⟨ks[j % z], by simp [hjz], ?_⟩
        have := hl (off / z + j / z) (j % z) ks[j % z] h3 (by simp [hjz])
        have e1 : (β k).2 + ((off / z + j / z) * ks.length + j % z) = (β k).2 + off + j := by
          rw [← hz, Nat.add_mul, hod]
          have := Nat.div_add_mod j z
          rw [Nat.mul_comm] at this
          omega
        rw [e1] at this
        exact this
      have hev : ∀ (β' : Bm) (j : Nat), j < m * z → ∃ s : SV, ((List.range (m * z)).map fun j => match ks[j % z]? with
          | some l => l.rd a (j % z) (.lit (Int.ofNat (off / z + j / z)))
          | none => undefS)[j]? = some s ∧ w.cell? ⟨(β k).1, (β k).2 + off + j, none⟩ = some (s.ev ρ β') ∧ s.ok ρ hp.n := fun β' j hj => by
        obtain ⟨l, h1, h2, h3⟩ := key j hj
        obtain ⟨r1, r2⟩ := rd_spec (ρ := ρ) (β := β') (n := hp.n) (l := l) (a := a) (f := j % z) (i := .lit (Int.ofNat (off / z + j / z))) h3
        exact ⟨_, by rw [List.getElem?_map, List.getElem?_range hj]; simp only [Option.map_some, h1], by rw [r1]; exact h2, r2⟩
      have hcell : ∀ j v, (SV.evs ρ β ((List.range (m * z)).map fun j => match ks[j % z]? with
          | some l => l.rd a (j % z) (.lit (Int.ofNat (off / z + j / z)))
          | none => undefS))[j]? = some v → w.cell? ((⟨(β k).1, (β k).2 + off, none⟩ : Addr).add j) = some v := fun j v hv => by
        have hj : j < m * z := by
          have := (List.getElem?_eq_some_iff.1 hv).1
          rw [SV.evs_map] at this
          simpa using this
        obtain ⟨s, h1, h2, _⟩ := hev β j hj
        rw [SV.evs_map, List.getElem?_map, h1] at hv
        obtain rfl := Option.some.inj hv
        rw [add_lit]
        exact h2
      refine ⟨?_, ?_, by simp, hcell⟩
      · simp only [SV.ev]
        exact run_firstCells_some w z m _ _ _ _ (by rw [SV.evs_map]; simp) hcell
      · rw [SV.oks_mem]
        intro s hs
        obtain ⟨j, hj, he⟩ := List.getElem_of_mem hs
        have hj' : j < m * z := by simpa using hj
        obtain ⟨s', h1, _, h3⟩ := hev β j hj'
        rw [List.getElem?_eq_getElem hj] at h1
        obtain rfl := Option.some.inj h1
        rw [← he]; exact h3
    · cases h
  · cases h
/-- A row that is read: its cells, its length. -/
theorem rowX_run {x : SV} {cs : List SV} {m z : Nat} (hs : Heap ρ w0 M β hp w) (hf : ∀ p ∈ fs, (p.1.ev ρ ≠ 0 ↔ p.2 = true)) (hx : x.ok ρ hp.n) (hm : lenX fs x = some m) (h : rowX hp m z x = some cs) :
    (Builtin.firstCells z m (x.ev ρ β)).run P w = .ok (SV.evs ρ β cs).toArray w ∧ SV.oks ρ hp.n cs ∧ cs.length = m * z ∧ (Builtin.lenOf (x.ev ρ β)).run P w = .ok m w ∧
    (0 < m * z → ∃ a c, x.ev ρ β = .slice (some a) m c ∧ ∀ j v, (SV.evs ρ β cs)[j]? = some v → w.cell? (a.add j) = some v) := by
  have plain : ∀ x : SV, lenS x = some m → rowS hp m z x = some cs → (Builtin.firstCells z m (x.ev ρ β)).run P w = .ok (SV.evs ρ β cs).toArray w ∧ SV.oks ρ hp.n cs ∧ cs.length = m * z ∧ (Builtin.lenOf (x.ev ρ β)).run P w = .ok m w ∧
      (0 < m * z → ∃ a c, x.ev ρ β = .slice (some a) m c ∧ ∀ j v, (SV.evs ρ β cs)[j]? = some v → w.cell? (a.add j) = some v) := fun x hm h => by
    obtain ⟨q1, q2, q3, q4⟩ := rowS_run (P := P) hs h
    refine ⟨q1, q2, q3, run_lenOf hm w, fun hpos => ?_⟩
    rcases lenS_spec hm with ⟨c, rfl⟩ | ⟨b, off, c, rfl⟩
    · exfalso
      simp only [rowS] at h
      split at h
      · rename_i h0; rw [h0] at hpos; omega
      · cases h
    · exact ⟨_, _, rfl, q4 b off m c rfl⟩
  unfold lenX at hm
  unfold rowX at h
  split at hm
  · rename_i k z' off len0 len cap
    split at hm
    · rename_i m' hcn
      obtain rfl := Option.some.inj hm
      have hlen : (len.ev ρ).toNat = m' := by
        have := canon_ev (ρ := ρ) (fs := fs) hf len
        rw [hcn] at this
        rw [← this]; rfl
      simp only at h
      split at h
      · rename_i hz
        subst hz
        obtain ⟨r1, r2, r3, r4⟩ := rowI_run (P := P) hs hx (by rw [hlen]; exact Nat.le_refl _) h
        refine ⟨r1, r2, r3, ?_, fun _ => ⟨⟨(β k).1, (β k).2 + off, none⟩, (cap.ev ρ).toNat, ?_, r4⟩⟩
        · simp only [SV.ev, hlen]; rfl
        · simp only [SV.ev, hlen]
      · cases h
    · cases hm
  · rename_i x hx'
    split at h
    · rename_i k z' off len0 len cap
      exact absurd rfl (hx' k z' off len0 len cap)
    · exact plain _ hm h
theorem copyI_run {ts : Array TypeId} {d : SV} {k z off : Nat} {len0 len cap : E} {K : Value → World → Prop} (h : Heap ρ w0 M β hp w) (hf : ∀ p ∈ fs, (p.1.ev ρ ≠ 0 ↔ p.2 = true)) (hs : (SV.inp k z off len0 len cap).ok ρ hp.n) (ty : TypeId) (hk : Goes ρ w0 M β hp (copyI P hp fs ts d k z off len0 len) K) :
    ∃ v w', (Builtin.copy_ ts ty #[d.ev ρ β, (SV.inp k z off len0 len cap).ev ρ β]).run P w = .ok v w' ∧ K v w' := by
  unfold copyI at hk
  split at hk
  · rename_i t sl ht hcn
    have hlen : (len.ev ρ).toNat = sl := by
      have := canon_ev (ρ := ρ) (fs := fs) hf len
      rw [hcn] at this
      rw [← this]; rfl
    split at hk
    · rename_i e b off' dl cap' hu
      split at hk
      · rename_i z' hz
        split at hk
        · rename_i cs c ty' tail hcs hb
          split at hk
          · rename_i hcond
            obtain ⟨rfl, hcond⟩ := hcond
            split at hk
            · rename_i v hv
              obtain ⟨r1, r2, r3, _⟩ := rowI_run (P := P) h hs (by rw [hlen]; exact Nat.min_le_left _ _) hcs
              obtain ⟨w', s1, s2⟩ := Heap.store (P := P) h hb rfl hcond.1 (fun x hx => List.all_eq_true.1 hcond.2 x hx) r2
              obtain ⟨v1, v2⟩ := intLit_spec (ρ := ρ) (β := β) (n := (hp.put b ⟨true, .cells (splice c cs off') ty' tail⟩).n) hv
              refine ⟨_, w', ?_, hk β w' (Ext.refl _ _) (by simp) (Stay.set hb rfl) s2 hf v2⟩
              have hsl : (Builtin.lenOf ((SV.inp k z' off len0 len cap).ev ρ β)).run P w = .ok sl w := by simp only [SV.ev, hlen]; rfl
              simp only [SV.ev] at hsl r1
              simp only [Builtin.copy_, ht, SV.ev]
              simp only [List.getElem?_toArray, List.getElem?_cons_zero, List.getElem?_cons_succ, Sem.run_bind, run_underlying hu w, Result.andThen_ok, hsl, szOf_run hz w, r1, s1, Sem.run_pure, goInt, v1]
            · exact hk.elim
          · exact hk.elim
        · exact hk.elim
      · exact hk.elim
    · exact hk.elim
  · exact hk.elim

/-- The tail of a row whose room is not known: the row itself is given up. -/
theorem Heap.pushRo {bv : Nat × Nat} {b : Bx} (h : Heap ρ w0 M β hp w) (hv : b.live = false) (hok : b.ok ρ (hp.n + 1)) (hl : b.lies ρ (upd β hp.n bv) bv w) (ha : b.isArr = true → bv.1 < w0.heap.size ∧ ¬ M bv.1) (hao : b.isObj = false := by rfl) :
    Heap ρ w0 M (upd β hp.n bv) (hp.push ⟨false, b⟩) w := by
  have hx := upd_ext β hp.n bv
  have cases_ : ∀ (k : Nat) (x : Box), (hp.push ⟨false, b⟩).at k = some x → (k < hp.n ∧ hp.at k = some x ∧ upd β hp.n bv k = β k) ∨ (k = hp.n ∧ x = ⟨false, b⟩) := fun k x hk => by
    have hlt' := Hp.at_lt hk
    simp only [Hp.n_push] at hlt'
    by_cases hlt : k < hp.n
    · rw [Hp.at_push_lt _ hlt] at hk
      exact .inl ⟨hlt, hk, hx k hlt⟩
    · obtain rfl : k = hp.n := by omega
      rw [Hp.at_push_n] at hk
      exact .inr ⟨rfl, (Option.some.inj hk).symm⟩
  refine ⟨fun k x hk => ?_, fun j k x y hj hk hlx hly he => ?_, fun k x hk hr hlx => ?_, fun k x hk => ?_, h.kept, fun k x hk hax => ?_, h.objs_push (.inr (.inr hv)) (fun _ _ _ _ _ _ _ _ => rfl) rfl (fun k x hk _ => hk) hao⟩
  · rcases cases_ k x hk with ⟨hlt, hk', e⟩ | ⟨rfl, rfl⟩
    · rw [e]; exact Bx.lies_ext hx (h.good k x hk') (h.lies k x hk')
    · rw [upd_same]; exact hl
  · rcases cases_ j x hj with ⟨hlt, hj', e⟩ | ⟨rfl, rfl⟩ <;> rcases cases_ k y hk with ⟨hlt', hk', e'⟩ | ⟨rfl, rfl⟩
    · rw [e, e'] at he; exact h.inj j k x y hj' hk' hlx hly he
    · simp only at hly; rw [hv] at hly; cases hly
    · simp only at hlx; rw [hv] at hlx; cases hlx
    · rfl
  · rcases cases_ k x hk with ⟨hlt, hk', e⟩ | ⟨rfl, rfl⟩
    · rw [e]; exact h.mine k x hk' hr hlx
    · cases hr
  · simp only [Hp.n_push]
    rcases cases_ k x hk with ⟨hlt, hk', e⟩ | ⟨rfl, rfl⟩
    · exact Bx.ok_mono (by omega) (h.good k x hk')
    · exact hok
  · rcases cases_ k x hk with ⟨hlt, hk', e⟩ | ⟨rfl, rfl⟩
    · rw [e]; exact h.arrs k x hk' hax
    · rw [upd_same]; exact ha hax
theorem cutS_run {t : TypeId} {x : SV} {lo : Option SV} {K : Value → World → Prop} (h : Heap ρ w0 M β hp w) (hf : ∀ p ∈ fs, (p.1.ev ρ ≠ 0 ↔ p.2 = true)) (hk : Goes ρ w0 M β hp (cutS P hp fs t x lo) K) :
    ∃ v, (Instr.sliceAt t (x.ev ρ β) (lo.map (SV.ev ρ β)) none none).run P w = .ok v w ∧ K v w := by
  unfold cutS at hk
  split at hk
  · rename_i e b len hu
    split at hk
    · rename_i z r c ty s l hz hb hl
      split at hk
      · rename_i hc
        obtain ⟨rfl, c3, c4⟩ := hc
        have hbl := Hp.at_lt hb
        obtain ⟨rest, r1, r2⟩ := h.lies _ _ hb
        have hcap : len ≤ (β b).2 := by
          have h1 : len * s ≤ (β b).2 * s := by rw [← r2, c3]; omega
          exact Nat.le_of_mul_le_mul_right h1 c4
        have hx := upd_ext β hp.n ((β b).1, (β b).2 - l)
        have hpush : Heap ρ w0 M (upd β hp.n ((β b).1, (β b).2 - l)) (hp.push ⟨false, .view b l⟩) w := h.pushRo (bv := ((β b).1, (β b).2 - l)) (b := .view b l) rfl (show b < hp.n + 1 by omega) (by
          show _ = _ ∧ _ = _
          rw [hx b hbl]; exact ⟨rfl, rfl⟩) (fun h => by cases h) rfl
        have hb2 := run_bounds (P := P) (ρ := ρ) (β := β) (isSlice := true) (lo := lo) (hi := none) (len := len) (cap := (β b).2) (h := len) rfl hl w
        simp only [Option.map_none] at hb2
        split at hk
        · rename_i hlt
          have hK := hk _ w hx (by simp) (Stay.push _ _) hpush hf (by simp [SV.ok])
          refine ⟨_, ?_, hK⟩
          simp only [Instr.sliceAt, Instr.slice, Sem.run_bind, run_underlying hu w, Result.andThen_ok, SV.ev, Option.getD_none, hb2, szOf_run hz w, Sem.run_pure, upd_same]
          rw [if_neg (by omega)]
          simp [add_lit]
        · split at hk
          · rename_i hle
            subst hle
            obtain ⟨k1, k2⟩ := hk
            by_cases he : (β b).2 = l
            · have hK := k1 _ w hx (by simp) (Stay.push _ _) hpush hf (by simp [SV.ok])
              refine ⟨_, ?_, hK⟩
              simp only [Instr.sliceAt, Instr.slice, Sem.run_bind, run_underlying hu w, Result.andThen_ok, SV.ev, Option.getD_none, hb2, szOf_run hz w, Sem.run_pure, upd_same]
              rw [if_pos (by omega)]
              simp
            · have hK := k2 _ w hx (by simp) (Stay.push _ _) hpush hf (by simp [SV.ok])
              refine ⟨_, ?_, hK⟩
              simp only [Instr.sliceAt, Instr.slice, Sem.run_bind, run_underlying hu w, Result.andThen_ok, SV.ev, Option.getD_none, hb2, szOf_run hz w, Sem.run_pure, upd_same]
              rw [if_neg (by omega)]
              simp [add_lit]
          · exact hk.elim
      · exact hk.elim
    · exact hk.elim
  · exact hk.elim
theorem sliceH_run {t : TypeId} {x r : SV} {lo hi : Option SV} (hh : Heap ρ w0 M β hp w) (hx : x.ok ρ hp.n) (h : sliceH P hp t x lo hi = some r) :
    (Instr.sliceAt t (x.ev ρ β) (lo.map (SV.ev ρ β)) (hi.map (SV.ev ρ β)) none).run P w = .ok (r.ev ρ β) w ∧ r.ok ρ hp.n := by
  unfold sliceH at h
  split at h
  · rename_i b len y
    split at h
    · rename_i e hu
      split at h
      · rename_i z r' c ty s h' hz hb hy
        split at h
        · rename_i hc
          obtain ⟨c1, rfl, c3, c4⟩ := hc
          obtain rfl := Option.some.inj h
          obtain ⟨rest, r1, r2⟩ := hh.lies _ _ hb
          have hcap : len ≤ (β b).2 := by
            have h1 : len * s ≤ (β b).2 * s := by rw [← r2, c3]; omega
            exact Nat.le_of_mul_le_mul_right h1 c4
          refine ⟨?_, hx⟩
          have hb2 := run_bounds (P := P) (ρ := ρ) (β := β) (isSlice := true) (lo := none) (hi := some y) (len := len) (cap := (β b).2) (h := h') (l := 0) (by
            simp only [boundS, hy]; rw [if_pos (by omega)]) rfl w
          simp only [Option.map_none] at hb2
          simp only [Instr.sliceAt, Instr.slice, Sem.run_bind, run_underlying hu w, Result.andThen_ok, SV.ev, Option.getD_none, Option.map_none, hb2, szOf_run hz w, Sem.run_pure]
          split <;> simp [add_lit]
        · cases h
      · cases h
    · cases h
  · have := sliceS_run (P := P) (β := β) hx h w
    simpa using this
theorem cells_tail {c : List SV} {ty : TypeId} {s : Nat} {b : Nat × Nat} (rest : List Value) (h : w.heap[b.1]? = some (.cells (SV.evs ρ β c ++ rest).toArray ty (0, 0))) (hl : c.length + rest.length = b.2 * s) : (Bx.cells c ty (s + 1)).lies ρ β b w := ⟨rest, h, hl⟩
theorem lenX_slice {x : SV} {m z : Nat} {cs : List SV} (hf : ∀ p ∈ fs, (p.1.ev ρ ≠ 0 ↔ p.2 = true)) (hm : lenX fs x = some m) (h0 : 0 < m) (h : rowX hp m z x = some cs) : ∃ a c, x.ev ρ β = .slice (some a) m c := by
  have plain : ∀ x : SV, lenS x = some m → rowS hp m z x = some cs → ∃ a c, x.ev ρ β = .slice (some a) m c := fun x hm h => by
    rcases lenS_spec hm with ⟨c, rfl⟩ | ⟨b, off, c, rfl⟩
    · exfalso
      simp only [rowS] at h
      rw [if_neg (by omega)] at h
      cases h
    · exact ⟨_, _, rfl⟩
  unfold lenX at hm
  unfold rowX at h
  split at hm
  · rename_i k z' off len0 len cap
    split at hm
    · rename_i m' hcn
      obtain rfl := Option.some.inj hm
      have hlen : (len.ev ρ).toNat = m' := by
        have := canon_ev (ρ := ρ) (fs := fs) hf len
        rw [hcn] at this
        rw [← this]; rfl
      exact ⟨⟨(β k).1, (β k).2 + off, none⟩, (cap.ev ρ).toNat, by simp only [SV.ev, hlen]⟩
    · cases hm
  · rename_i x hx'
    split at h
    · rename_i k z' off len0 len cap
      exact absurd rfl (hx' k z' off len0 len cap)
    · exact plain _ hm h
theorem appendS_run {ts : Array TypeId} {s x : SV} {K : Value → World → Prop} (h : Heap ρ w0 M β hp w) (hf : ∀ p ∈ fs, (p.1.ev ρ ≠ 0 ↔ p.2 = true)) (ty0 : TypeId) (hts : ts.size = 2) (hs : s.ok ρ hp.n) (hx : x.ok ρ hp.n) (hk : Goes ρ w0 M β hp (appendS P hp fs ts s x) K) :
    ∃ v w', (Builtin.append_ ts ty0 #[s.ev ρ β, x.ev ρ β]).run P w = .ok v w' ∧ K v w' := by
  unfold appendS at hk
  split at hk
  · rename_i t u n m ht hu' hn hm
    split at hk
    · rename_i htu
      subst htu
      have hts' : ts = #[t, t] := by
        apply Array.ext_getElem?
        intro i
        match i with
        | 0 => simpa using ht
        | 1 => simpa using hu'
        | i + 2 => rw [Array.getElem?_eq_none (by omega)]; simp
      subst hts'
      split at hk
      · rename_i e hu
        split at hk
        · rename_i i z hi hz
          split at hk
          · rename_i olds news holds hnews
            split at hk
            · rename_i hm0
              subst hm0
              obtain ⟨q1, q2, q3, ql, q4⟩ := rowX_run (P := P) h hf hx hm hnews
              have hnn : news = [] := List.eq_nil_of_length_eq_zero (by simpa using q3)
              subst hnn
              split at hk
              · refine ⟨_, w, ?_, hk β w (Ext.refl _ _) (Nat.le_refl _) (Stay.refl _) h hf hs⟩
                simp [Builtin.append_, run_underlying hu w, sizeOf, typeInfo, hi, SV.ev, ql, q1, SV.evs]
              · rename_i b off l cap
                split at hk
                · rename_i hle
                  refine ⟨_, w, ?_, hk β w (Ext.refl _ _) (Nat.le_refl _) (Stay.refl _) h hf hs⟩
                  simp [Builtin.append_, run_underlying hu w, sizeOf, typeInfo, hi, SV.ev, ql, q1, SV.evs, hle, storeCells]
                · exact hk.elim
              · rename_i b off l
                split at hk
                · rename_i rw' c ty' tl hb
                  split at hk
                  · rename_i hc3
                    obtain ⟨hc1, hc2⟩ := hc3
                    have hlies := h.lies _ _ hb
                    obtain ⟨rest, _, hlen⟩ := hlies
                    have hle : l ≤ (β b).2 := Nat.le_of_mul_le_mul_right (show l * tl ≤ (β b).2 * tl by omega) hc1
                    refine ⟨_, w, ?_, hk β w (Ext.refl _ _) (Nat.le_refl _) (Stay.refl _) h hf hs⟩
                    simp [Builtin.append_, run_underlying hu w, sizeOf, typeInfo, hi, SV.ev, ql, q1, SV.evs, hle, storeCells]
                  · exact hk.elim
                · exact hk.elim
              · exact hk.elim
            rename_i hm0'
            split at hk
            · rename_i hcond
              obtain ⟨hzl, hm0, hnm, hby⟩ := hcond
              obtain ⟨⟨i', zv, hi', hzv, hc1⟩, hok⟩ := zeroS_spec hz
              obtain rfl : i = i' := by rw [hi] at hi'; exact Option.some.inj hi'
              obtain ⟨o1, o2, o3, o4⟩ := rowS_run (P := P) h holds
              obtain ⟨q1, q2, q3, ql, q4⟩ := rowX_run (P := P) h hf hx hm hnews
              have hxs : ∃ a c, x.ev ρ β = .slice (some a) m c ∧ ∀ j v, (SV.evs ρ β news)[j]? = some v → w.cell? (a.add j) = some v := by
                by_cases hpos : 0 < m * i.size
                · exact q4 hpos
                · have hnil : news = [] := List.eq_nil_of_length_eq_zero (by omega)
                  obtain ⟨a, c, he⟩ := lenX_slice (ρ := ρ) (β := β) hf hm hm0 hnews
                  exact ⟨a, c, he, fun j v hv => by rw [hnil] at hv; simp [SV.evs] at hv⟩
              obtain ⟨xa, xc, hxe, qn⟩ := hxs
              rw [hxe] at q1 ql ⊢
              have hnl : (SV.evs ρ β news).length = m * i.size := by rw [SV.evs_map]; simpa using q3
              have hol : (SV.evs ρ β olds).length = n * i.size := by rw [SV.evs_map]; simpa using o3
              have hzc : zv.cells.size = i.size := by rw [hc1 ρ β]; rw [SV.evs_map]; simpa using hzl
              have hzz : ∀ k : Nat, (Builtin.zeroCells zv.cells k).toList.length = k * i.size := fun k => by simp [Builtin.zeroCells, hzc]
              have capge : ∀ (w : World) (need old : Nat), need < 2 ^ 63 → need ≤ grownCap w need old e := fun w need old _ => by simp only [grownCap, Question.cut]; omega
              split at hk
              · have hn0 : n = 0 := by
                  rcases lenS_spec hn with ⟨c, he⟩ | ⟨_, _, _, he⟩
                  · simp only [SV.raw.injEq, Value.slice.injEq] at he; exact he.2.1.symm
                  · cases he
                subst hn0
                simp only [Nat.zero_add] at hby
                have hrun := run_append_nil (P := P) w t ty0 e i zv hu hi hzv xa m xc (SV.evs ρ β news) hnl qn hm0 (by omega) (by omega)
                refine ⟨_, _, hrun, ?_⟩
                have hdr : Below w.heap.size w w.drew := (Below.refl _ _).drew
                have hh := (h.below hdr).alloc (c := grownCap w m 0 e) (b := .cells news e (i.size + 1)) (o := .cells ((SV.evs ρ β news).toArray ++ Builtin.zeroCells zv.cells (grownCap w m 0 e - m)) e) (SV.oks_mono (Nat.le_succ _) _ q2) (by
                  refine cells_tail (Builtin.zeroCells zv.cells (grownCap w m 0 e - m)).toList ?_ ?_
                  · rw [SV.evs_ext (upd_ext _ _ _) news q2]
                    rw [heap_alloc_new]
                    congr 2
                    apply Array.ext'
                    simp
                  · rw [q3, hzz]
                    have := capge w m 0 (by omega)
                    show m * i.size + (grownCap w m 0 e - m) * i.size = grownCap w m 0 e * i.size
                    rw [← Nat.add_mul]
                    congr 1
                    omega)
                have := hk _ _ (upd_ext _ _ _) (by simp) (Stay.push _ _) hh hf (by simp [SV.ok])
                simpa [SV.ev, upd_same] using this
              · rename_i b off l cap
                have hln : l = n := by
                  rcases lenS_spec hn with ⟨c, he⟩ | ⟨_, _, _, he⟩
                  · cases he
                  · simp only [SV.slice.injEq] at he; exact he.2.2.1
                subst hln
                split at hk
                · rename_i hroom
                  split at hk
                  · rename_i c ty tail hb
                    split at hk
                    · rename_i hc2
                      obtain ⟨w', s1, s2⟩ := Heap.store (P := P) h hb rfl hc2.1 (fun y hy => List.all_eq_true.1 hc2.2 y hy) q2
                      refine ⟨_, w', ?_, hk β w' (Ext.refl _ _) (by simp) (Stay.set hb rfl) s2 hf (by simpa [SV.ok] using hs)⟩
                      simp [Builtin.append_, run_underlying hu w, sizeOf, typeInfo, hi, Builtin.lenOf, SV.ev, hroom, q1, add_lit, s1]
                    · exact hk.elim
                  · exact hk.elim
                · rename_i hroom
                  have oo := o4 b off l (some cap) rfl
                  have hrun := run_append_grow (P := P) w t ty0 e i zv hu hi hzv ⟨(β b).1, off, none⟩ l cap (SV.evs ρ β olds) hol oo xa m xc (SV.evs ρ β news) hnl qn (by omega) (by omega) (growslice_fits (by omega) (by omega))
                  refine ⟨_, _, hrun, ?_⟩
                  have hdr : Below w.heap.size w w.drew := (Below.refl _ _).drew
                  have hno : SV.oks ρ hp.n (olds ++ news) := by rw [SV.oks_mem] at *; intro y hy; rcases List.mem_append.1 hy with hy | hy; exact o2 y hy; exact q2 y hy
                  have hh := (h.below hdr).alloc (c := grownCap w (l + m) cap e) (b := .cells (olds ++ news) e (i.size + 1)) (o := .cells ((SV.evs ρ β olds).toArray ++ (SV.evs ρ β news).toArray ++ Builtin.zeroCells zv.cells (grownCap w (l + m) cap e - (l + m))) e) (SV.oks_mono (Nat.le_succ _) _ hno) (by
                    refine cells_tail (Builtin.zeroCells zv.cells (grownCap w (l + m) cap e - (l + m))).toList ?_ ?_
                    · rw [SV.evs_ext (upd_ext _ _ _) _ hno]
                      rw [heap_alloc_new]
                      congr 2
                      apply Array.ext'
                      simp [SV.evs_map]
                    · rw [hzz]
                      have := capge w (l + m) cap (by omega)
                      show (olds ++ news).length + (grownCap w (l + m) cap e - (l + m)) * i.size = grownCap w (l + m) cap e * i.size
                      rw [List.length_append, o3, q3, ← Nat.add_mul, ← Nat.add_mul]
                      congr 1
                      omega)
                  have := hk _ _ (upd_ext _ _ _) (by simp) (Stay.push _ _) hh hf (by simp [SV.ok])
                  simpa [SV.ev, upd_same] using this
              · rename_i b off l
                have hln : l = n := by
                  rcases lenS_spec hn with ⟨c, he⟩ | ⟨_, _, _, he⟩
                  · cases he
                  · simp only [SV.slice.injEq] at he; exact he.2.2.1
                subst hln
                split at hk
                · rename_i c ty tail hb
                  split at hk
                  · rename_i hc2
                    obtain ⟨rfl, rfl, rfl, hcl, hones⟩ := hc2
                    have hl0 := h.lies _ _ hb
                    obtain ⟨rest, hg, hlen⟩ := hl0
                    have hgood : SV.oks ρ hp.n c := h.good _ _ hb
                    have hoc : olds = c := by
                      simp only [rowS, cellsAt, hb] at holds
                      split at holds
                      · obtain rfl := Option.some.inj holds
                        rw [List.drop_zero, List.take_of_length_le (by omega)]
                      · cases holds
                    subst hoc
                    have hno : SV.oks ρ hp.n (olds ++ news) := by rw [SV.oks_mem] at *; intro y hy; rcases List.mem_append.1 hy with hy | hy; exact hgood y hy; exact q2 y hy
                    have hbl : b < hp.n := Hp.at_lt hb
                    have hstay : Stay hp ((hp.put b ⟨false, .gone⟩).push ⟨true, .cells (olds ++ news) ty (i.size + 1)⟩) := (Stay.set hb rfl).trans (Stay.push _ _)
                    by_cases hroom : l + m ≤ (β b).2
                    · have hroom2 : (l + m) * i.size ≤ (β b).2 * i.size := Nat.mul_le_mul_right _ hroom
                      have hrl : news.length ≤ rest.length := by rw [Nat.add_mul] at hroom2; omega
                      have hev : (SV.evs ρ β olds).length = olds.length := by rw [SV.evs_map]; simp
                      have hevn : (SV.evs ρ β news).length = news.length := by rw [SV.evs_map]; simp
                      have hones' : ∀ v ∈ SV.evs ρ β news, v.oneCell' = true := fun v hv => by
                        rw [SV.evs_map] at hv
                        obtain ⟨y, hy, rfl⟩ := List.mem_map.1 hv
                        exact SV.one_ev ρ β (List.all_eq_true.1 hones y hy)
                      obtain ⟨w', r1, r2, r3, r4, r5, r6, r7⟩ := run_store_mid (P := P) (β b).1 ty (SV.evs ρ β news) (l * i.size) 0 (SV.evs ρ β olds ++ rest) w hg (by simp only [List.length_append]; omega) hones'
                      have hsp : spliceV (SV.evs ρ β olds ++ rest) (SV.evs ρ β news) (l * i.size + 0) = SV.evs ρ β (olds ++ news) ++ rest.drop news.length := by
                        unfold spliceV
                        rw [Nat.add_zero, List.take_append_of_le_length (by omega), List.take_of_length_le (by omega), List.drop_append, List.drop_eq_nil_of_le (by omega)]
                        simp only [List.nil_append]
                        rw [hevn, hev, hcl, show l * i.size + news.length - l * i.size = news.length by omega]
                        simp [SV.evs_map]
                      rw [hsp] at r2
                      have hwr := h.write (c := .cells (olds ++ news) ty (i.size + 1)) hb rfl rfl hno ⟨_, r2, by rw [List.length_append, List.length_drop]; omega⟩ r3 r4 r5 r6 r7
                      have hfg := hwr.forget b
                      have hput : ∀ (x y : Box), (hp.put b x).put b y = hp.put b y := fun x y => by
                        unfold Hp.put
                        congr 1
                        funext k
                        simp only [beq_iff]
                        by_cases hkb : k = b <;> simp [hkb]
                      rw [hput] at hfg
                      have hpush := hfg.push (bv := β b) (b := .cells (olds ++ news) ty (i.size + 1)) (fun j b' hj hv he => by
                        by_cases hjb : j = b
                        · subst hjb
                          rw [Hp.at_put_same _ hbl] at hj
                          obtain rfl := Option.some.inj hj
                          cases hv
                        · rw [Hp.at_put_ne _ hjb] at hj
                          exact hjb (h.inj j b _ _ hj hb hv rfl he)) (h.mine b _ hb rfl rfl) (SV.oks_mono (by simp) _ hno) (by
                        refine cells_tail (rest.drop news.length) ?_ ?_
                        · rw [SV.evs_ext (upd_ext _ _ _) _ (by simpa using hno)]; exact r2
                        · rw [List.length_append, List.length_drop]; omega)
                        (h.objs_push (.inl ⟨b, _, hb, rfl, rfl⟩) (fun φ ho k1 x1 i1 hk1 hx1 hi1 => r3 i1 fun e1 => (ho.apart k1 b x1 _ hk1 hb hx1 (fun e2 => by
                          rw [e2, hb] at hk1
                          obtain rfl := Option.some.inj hk1
                          cases hx1) i1 hi1).1 rfl e1.symm) (by simp) (fun k1 x1 hk1 hx1 => by
                          by_cases hkb : k1 = b
                          · rw [hkb, Hp.at_put_same _ hbl] at hk1
                            obtain rfl := Option.some.inj hk1
                            rcases hx1 with hx1 | hx1 <;> cases hx1
                          · rw [Hp.at_put_ne _ hkb] at hk1; exact hk1))
                      simp only [Hp.n_put] at hpush
                      have hK := hk _ w' (upd_ext _ _ _) (by simp) hstay hpush hf (by simp [SV.ok])
                      refine ⟨(SV.slice hp.n 0 (l + m) none).ev ρ (upd β hp.n (β b)), w', ?_, hK⟩
                      · simp [Builtin.append_, run_underlying hu w, sizeOf, typeInfo, hi, Builtin.lenOf, SV.ev, hroom, q1, add_lit, r1, upd_same]
                    · have oo := o4 b 0 l none rfl
                      have hrun := run_append_grow (P := P) w t ty0 ty i zv hu hi hzv ⟨(β b).1, 0, none⟩ l (β b).2 (SV.evs ρ β olds) hol oo xa m xc (SV.evs ρ β news) hnl qn (by omega) (by omega) (growslice_fits (by omega) (by omega))
                      refine ⟨_, _, hrun, ?_⟩
                      have hdr : Below w.heap.size w w.drew := (Below.refl _ _).drew
                      have hh := ((h.below hdr).forget b).alloc (c := grownCap w (l + m) (β b).2 ty) (b := .cells (olds ++ news) ty (i.size + 1)) (o := .cells ((SV.evs ρ β olds).toArray ++ (SV.evs ρ β news).toArray ++ Builtin.zeroCells zv.cells (grownCap w (l + m) (β b).2 ty - (l + m))) ty) (SV.oks_mono (by simp) _ hno) (by
                        refine cells_tail (Builtin.zeroCells zv.cells (grownCap w (l + m) (β b).2 ty - (l + m))).toList ?_ ?_
                        · rw [SV.evs_ext (upd_ext _ _ _) _ (by simpa using hno)]
                          rw [heap_alloc_new]
                          congr 2
                          apply Array.ext'
                          simp [SV.evs_map]
                        · rw [hzz]
                          have := capge w (l + m) (β b).2 (by omega)
                          show (olds ++ news).length + (grownCap w (l + m) (β b).2 ty - (l + m)) * i.size = grownCap w (l + m) (β b).2 ty * i.size
                          rw [List.length_append, o3, q3, ← Nat.add_mul, ← Nat.add_mul]
                          congr 1
                          omega)
                      simp only [Hp.n_put] at hh
                      have := hk _ _ (upd_ext _ _ _) (by simp) hstay hh hf (by simp [SV.ok])
                      simpa [SV.ev, upd_same] using this
                  · exact hk.elim
                · exact hk.elim
              · exact hk.elim
            · exact hk.elim
          · exact hk.elim
        · exact hk.elim
      · exact hk.elim
    · exact hk.elim
  · exact hk.elim

/-! ### Maps -/
theorem mapOf_spec {m : SV} {b clock : Nat} {r : Bool} {es : Ents} (h : mapOf hp m = some (b, r, es, clock)) : m = .map b ∧ hp.at b = some ⟨r, .map es clock⟩ := by
  unfold mapOf at h
  split at h
  · split at h
    · rename_i hb
      simp only [Option.some.injEq, Prod.mk.injEq] at h
      obtain ⟨rfl, rfl, rfl, rfl⟩ := h
      exact ⟨rfl, hb⟩
    · cases h
  · cases h
theorem getObj_map (h : Heap ρ w0 M β hp w) {b clock : Nat} {r : Bool} {es : Ents} (hb : hp.at b = some ⟨r, .map es clock⟩) : (getObj (β b).1).run P w = .ok (.map (es.map (entOf ρ β)).toArray clock) w := by
  have := h.lies _ _ hb
  simp only [Bx.lies] at this
  simp [getObj, Sem.run, this]
/-- What findS has found. -/
theorem findS_run {kd k : IntKind} {a : E} {f : Fs → Option (Nat × SV) → T Out} {Q : Out → Prop} : ∀ {es : Ents} {i : Nat} {fs : Fs}, (∀ p ∈ fs, (p.1.ev ρ ≠ 0 ↔ p.2 = true)) → (findS k a f es i fs).holds ρ Q →
    ∃ (fs' : Fs) (r : Option (Nat × SV)), (∀ p ∈ fs', (p.1.ev ρ ≠ 0 ↔ p.2 = true)) ∧ (f fs' r).holds ρ Q ∧ Instr.findNow (.int kd) (.int k (a.ev ρ)) (es.map (entOf ρ β)) i = some (r.map fun p => (p.1, p.2.ev ρ β)) ∧
      (∀ j v, r = some (j, v) → i ≤ j ∧ ∃ ke born, es[j - i]? = some (ke, v, born))
  | [], i, fs, hf, h => ⟨fs, none, hf, h, rfl, fun _ _ e => by cases e⟩
  | (ke, v, born) :: es, i, fs, hf, h => by
    cases ke with
    | int j e =>
      simp only [findS] at h
      split at h
      · rename_i hk
        obtain rfl := kTag_inj hk
        obtain ⟨fs1, hf1, h1⟩ := split_holds hf h
        have hmk : (mk .eq k a e).ev ρ = if a.ev ρ = e.ev ρ then 1 else 0 := by rw [mk_ev]; rfl
        rcases h1 with ⟨hc, h1⟩ | ⟨hc, h1⟩
        · have heq : a.ev ρ = e.ev ρ := by
            by_cases he : a.ev ρ = e.ev ρ
            · exact he
            · rw [hmk, if_neg he] at hc; exact absurd rfl hc
          refine ⟨fs1, some (i, v), hf1, h1, ?_, fun j' v' e' => ?_⟩
          · simp [Instr.findNow, entOf, SV.ev, Instr.sameNow, heq]
          · simp only [Option.some.injEq, Prod.mk.injEq] at e'
            obtain ⟨rfl, rfl⟩ := e'
            exact ⟨Nat.le_refl _, .int k e, born, by simp⟩
        · have hne : ¬ a.ev ρ = e.ev ρ := fun he => by rw [hmk, if_pos he] at hc; cases hc
          obtain ⟨fs2, r, q1, q2, q3, q4⟩ := findS_run (kd := kd) (es := es) (i := i + 1) hf1 h1
          refine ⟨fs2, r, q1, q2, ?_, fun j' v' e' => ?_⟩
          · have hb : (a.ev ρ == e.ev ρ) = false := by simpa using hne
            simp only [List.map_cons, Instr.findNow, entOf, SV.ev, Instr.sameNow, if_true, hb]
            exact q3
          · obtain ⟨g1, ke', b', g2⟩ := q4 j' v' e'
            refine ⟨by omega, ke', b', ?_⟩
            rw [show j' - i = (j' - (i + 1)) + 1 by omega, List.getElem?_cons_succ]
            exact g2
      · exact h.elim
    | _ => exact h.elim
theorem run_checkKey_succ {t : TypeId} {kd : IntKind} (hu : P.underlying t = some (.int kd)) (e : Bool) (n : Nat) (k : IntKind) (x : Int) (w : World) : (Instr.checkKey e (n + 1) t (.int k x)).run P w = .ok () w := by
  simp [Instr.checkKey, run_underlying hu w]
theorem run_checkKey_int {t : TypeId} {kd : IntKind} (hu : P.underlying t = some (.int kd)) (e : Bool) (k : IntKind) (x : Int) (w : World) : (Instr.checkKey e 10000 t (.int k x)).run P w = .ok () w := run_checkKey_succ hu e 9999 k x w
theorem lookupS_run {t : TypeId} {m key : SV} {ok : Bool} {K : Value → World → Prop} (h : Heap ρ w0 M β hp w) (hf : ∀ p ∈ fs, (p.1.ev ρ ≠ 0 ↔ p.2 = true)) (hk : Goes ρ w0 M β hp (lookupS P hp fs t m key ok) K) :
    ∃ v w', (Instr.lookup t (m.ev ρ β) (key.ev ρ β) ok).run P w = .ok v w' ∧ K v w' := by
  unfold lookupS at hk
  split at hk
  · rename_i kt et b r es clock k a hu hm
    obtain ⟨rfl, hb⟩ := mapOf_spec hm
    split at hk
    · rename_i kd i hkt hi
      split at hk
      · rename_i z hz
        obtain ⟨fs', res, q1, q2, q3, q4⟩ := findS_run (β := β) (kd := kd) hf hk
        have hgood : ∀ e ∈ es, e.1.ok ρ hp.n ∧ e.2.1.ok ρ hp.n := h.good _ _ hb
        have hrun : (Instr.findKey kt (.int k (a.ev ρ)) (es.map (entOf ρ β))).run P w = .ok (res.map fun p => (p.1, p.2.ev ρ β)) w := by
          simp [Instr.findKey, run_underlying hkt w, q3]
        refine ⟨_, w, ?_, q2 β w (Ext.refl _ _) (Nat.le_refl _) (Stay.refl _) h q1 ?_⟩
        · simp only [Instr.lookup, Sem.run_bind, run_underlying hu w, Result.andThen_ok, SV.ev, getObj_map h hb, Sem.run_pure, run_checkKey_int hkt, hrun]
          cases res with
          | none => cases ok <;> simp [zeroValue, typeInfo, hi, hz, SV.ev, SV.evs, ofValue_ev, E.ev]
          | some p => obtain ⟨j, v⟩ := p; cases ok <;> simp [SV.ev, SV.evs, E.ev]
        · cases res with
          | none => cases ok <;> simp [SV.ok, SV.oks, ofValue_ok]
          | some p =>
            obtain ⟨j, v⟩ := p
            obtain ⟨_, ke, born, hj⟩ := q4 j v rfl
            have := (hgood _ (List.mem_of_getElem? hj)).2
            cases ok <;> simpa [SV.ok, SV.oks] using this
      · exact hk.elim
    · exact hk.elim
  · exact hk.elim
theorem updateS_run {t : TypeId} {m key x : SV} {K : Value → World → Prop} (h : Heap ρ w0 M β hp w) (hf : ∀ p ∈ fs, (p.1.ev ρ ≠ 0 ↔ p.2 = true)) (hkey : key.ok ρ hp.n) (hx : x.ok ρ hp.n) (hk : Goes ρ w0 M β hp (updateS P hp fs t m key x) K) :
    ∃ w', (Instr.mapUpdate t (m.ev ρ β) (key.ev ρ β) (x.ev ρ β)).run P w = .ok () w' ∧ K undef w' := by
  unfold updateS at hk
  split at hk
  · rename_i kt et b es clock k a hu hm
    obtain ⟨rfl, hb⟩ := mapOf_spec hm
    split at hk
    · rename_i kd hkt
      obtain ⟨fs', res, q1, q2, q3, q4⟩ := findS_run (β := β) (kd := kd) hf hk
      have hgood : ∀ e ∈ es, e.1.ok ρ hp.n ∧ e.2.1.ok ρ hp.n := h.good _ _ hb
      have hrun : (Instr.findKey kt (.int k a) (es.map (entOf ρ β))).run P w = .ok (res.map fun p => (p.1, p.2.ev ρ β)) w := by
        simp only [E.ev] at q3
        simp [Instr.findKey, run_underlying hkt w, q3]
      have hl := h.lies _ _ hb
      simp only [Bx.lies] at hl
      have hset : ∀ (es' : Ents) (c' : Nat), (setObj (β b).1 (.map (es'.map (entOf ρ β)).toArray c')).run P w = .ok () { w with heap := w.heap.setIfInBounds (β b).1 (.map (es'.map (entOf ρ β)).toArray c') } := fun es' c' => by
        simp [setObj, Sem.run, hl]
      have hlt : (β b).1 < w.heap.size := (Array.getElem?_eq_some_iff.1 hl).1
      have hwr : ∀ (es' : Ents) (c' : Nat), (∀ e ∈ es', e.1.ok ρ hp.n ∧ e.2.1.ok ρ hp.n) → Heap ρ w0 M β (hp.put b ⟨true, .map es' c'⟩) { w with heap := w.heap.setIfInBounds (β b).1 (.map (es'.map (entOf ρ β)).toArray c') } := fun es' c' hes => by
        refine h.write (c := .map es' c') hb rfl rfl hes ?_ (fun i hi => ?_) (by simp) rfl rfl rfl
        · simp only [Bx.lies]; simp [hlt]
        · simp [Array.getElem?_setIfInBounds_ne (Ne.symm hi)]
      cases res with
      | none =>
        have hes : ∀ e ∈ es ++ [(.int k (.lit a), x, clock)], SV.ok ρ hp.n e.1 ∧ SV.ok ρ hp.n e.2.1 := fun e he => by
          rcases List.mem_append.1 he with he | he
          · exact hgood e he
          · obtain rfl : e = (.int k (.lit a), x, clock) := by simpa using he
            exact ⟨hkey, hx⟩
        refine ⟨_, ?_, q2 β _ (Ext.refl _ _) (by simp) (Stay.set hb rfl) (hwr _ _ hes) q1 trivial⟩
        simp only [Instr.mapUpdate, Sem.run_bind, run_underlying hu w, Result.andThen_ok, SV.ev, getObj_map h hb, run_checkKey_int hkt, E.ev, hrun, Option.map_none]
        rw [← hset]
        congr 2
        simp [entOf, SV.ev, E.ev]
      | some p =>
        obtain ⟨j, v⟩ := p
        simp only at q2
        split at q2
        · rename_i jk a' v' born hj
          split at q2
          · rename_i hc
            obtain ⟨hc1, rfl⟩ := hc
            obtain rfl := kTag_inj hc1
            have hes : ∀ e ∈ es.set j (.int k (.lit a), x, born), SV.ok ρ hp.n e.1 ∧ SV.ok ρ hp.n e.2.1 := fun e he => by
              rcases List.mem_or_eq_of_mem_set he with he | rfl
              · exact hgood e he
              · exact ⟨hkey, hx⟩
            refine ⟨_, ?_, q2 β _ (Ext.refl _ _) (by simp) (Stay.set hb rfl) (hwr _ _ hes) q1 trivial⟩
            have hje : (es.map (entOf ρ β)).toArray[j]? = some { key := .int k a, val := v'.ev ρ β, born := born } := by
              rw [List.getElem?_toArray, List.getElem?_map, hj]; rfl
            simp only [Instr.mapUpdate, Sem.run_bind, run_underlying hu w, Result.andThen_ok, SV.ev, getObj_map h hb, run_checkKey_int hkt, E.ev, hrun, Option.map_some, hje, Option.getD_some, Instr.keyThatStays, Instr.sameBits, beq_self_eq_true, Bool.and_self, if_true, Sem.run_pure]
            rw [← hset]
            congr 3
            apply Array.ext_getElem?
            intro i
            rw [Array.getElem?_modify, List.getElem?_toArray, List.getElem?_toArray, List.getElem?_map, List.getElem?_map, List.getElem?_set]
            by_cases hij : j = i
            · subst hij
              have hjl := (List.getElem?_eq_some_iff.1 hj).1
              have hje2 := (List.getElem?_eq_some_iff.1 hj).2
              simp [hj, hjl, hje2, entOf, SV.ev, E.ev]
            · simp [hij]
          · exact q2.elim
        · exact q2.elim
    · exact hk.elim
  · exact hk.elim
theorem makeMapS_run {K : Value → World → Prop} (h : Heap ρ w0 M β hp w) (hf : ∀ p ∈ fs, (p.1.ev ρ ≠ 0 ↔ p.2 = true)) (hk : Goes ρ w0 M β hp (makeMapS hp fs) K) : K (.map (some w.heap.size)) (w.alloc (.map #[] 0)) := by
  have hh := h.alloc (c := 0) (b := .map [] 0) (o := .map #[] 0) (fun e he => by cases he) (by simp only [Bx.lies]; rw [heap_alloc_new]; rfl)
  have := hk _ _ (upd_ext _ _ _) (by simp) (Stay.push _ _) hh hf (by simp [SV.ok])
  simpa [SV.ev, upd_same] using this
theorem mapLenS_run {ts : Array TypeId} {m : SV} {K : Value → World → Prop} (h : Heap ρ w0 M β hp w) (hf : ∀ p ∈ fs, (p.1.ev ρ ≠ 0 ↔ p.2 = true)) (ty : TypeId) (hk : Goes ρ w0 M β hp (mapLenS P hp fs ts m) K) :
    ∃ v w', (Builtin.len_ ts ty #[m.ev ρ β]).run P w = .ok v w' ∧ K v w' := by
  unfold mapLenS at hk
  split at hk
  · rename_i t b r es clock ht hm
    obtain ⟨rfl, hb⟩ := mapOf_spec hm
    split at hk
    · rename_i kt et v hu hv
      obtain ⟨v1, v2⟩ := intLit_spec (ρ := ρ) (β := β) (n := hp.n) hv
      refine ⟨_, w, ?_, hk β w (Ext.refl _ _) (Nat.le_refl _) (Stay.refl _) h hf v2⟩
      simp [Builtin.len_, ht, run_underlying hu w, SV.ev, getObj_map h hb, goInt, v1]
    · exact hk.elim
  · exact hk.elim
end
end Go.Proofs.YtfcpmapfhgibpaaDoor.SX
namespace Go.Proofs.YtfcpmapfhgibpaaDoor.SX
open Go Go.RowKit
set_option linter.unusedVariables false
set_option linter.unusedSimpArgs false

/-- What an operation that is not pure comes to. -/
def effS (P : Program) (call : Caller) (hp : Hp) (fs : Fs) (g : Operand → SV) (o : Oper) : T Out :=
  match o.op with
  | .alloc e => allocS P hp fs e
  | .box e x => boxS hp fs e (g x)
  | .buildSlice t n ps => buildSliceS P hp fs t n (ps.toList.map fun p => (p.1, g p.2))
  | .store t a x => storeS P hp fs t (g a) (g x)
  | .call { callee := .value f, args := as, .. } => match g f with
    | .func fid u v => call fid (u ++ as.toList.map g ++ v) hp fs
    | _ => .bad 100
  | .pick c a b => match g c with
    | .bool e => split fs e (fun fs => .ok ⟨g a, hp, fs⟩) (fun fs => .ok ⟨g b, hp, fs⟩)
    | _ => .bad 99
  | .makeSlice t l c => makeSliceS P hp fs t (litF fs (g l)) (litF fs (g c))
  | .makeMap _ none => makeMapS hp fs
  | .lookup t m k ok => lookupS P hp fs t (g m) (g k) ok
  | .insert t m k x => updateS P hp fs t (g m) (g k) (g x)
  | .mapUpdate t m k x => updateS P hp fs t (g m) (g k) (g x)
  | .call { callee := .builtin .copy, args := as, argTypes := ts } => match as.toList with
    | [d, s] => match g s with
      | .inp k z off len0 len _ => copyI P hp fs ts (g d) k z off len0 len
      | s => copyS P hp fs ts (g d) s
    | _ => .bad 90
  | .call { callee := .builtin .append, args := as, argTypes := ts } => match as.toList with
    | [s, x] => if ts.size = 2 then appendS P hp fs ts (g s) (g x) else .bad 91
    | _ => .bad 92
  | .call { callee := .builtin .len, args := as, argTypes := ts } => match as.toList with
    | [m] => mapLenS P hp fs ts (g m)
    | _ => .bad 93
  | .load .. => .bad 101
  | .binOp .. => .bad 102
  | .convert .. => .bad 103
  | .fieldAddr .. => .bad 104
  | .indexAddr t x i => match g i with
    | .int k e => concT fs e fun m fs => match iaddrS P t (g x) (.int k (.lit m)) with
      | some r => .ok ⟨r, hp, fs⟩
      | none => .bad 105
    | _ => .bad 105
  | .index t x i => match g i with
    | .int k e => concT fs e fun m fs => match indexS P t (g x) (.int k (.lit m)) with
      | some r => .ok ⟨r, hp, fs⟩
      | none => .bad 106
    | _ => .bad 106
  | .slice t x lo (some y) none => match g y with
    | .int k e => concT fs e fun m fs => match sliceH P hp t (g x) (lo.map g) (some (.int k (.lit m))) with
      | some r => .ok ⟨r, hp, fs⟩
      | none => .bad 107
    | _ => .bad 107
  | .slice t x lo none none => cutS P hp fs t (g x) (lo.map g)
  | .slice .. => .bad 107
  | .call .. => .bad 108
  | .makeMap .. => .bad 110
  | .nilCheck .. => .bad 114
  | .build .. => .bad 115
  | _ => .bad 199

section
variable (P : Program) (ρ : Env) (w0 : World) (M : Nat → Prop) (gl : Gl)
def GlOk (β : Bm) (n : Nat) : Prop := ∀ p ∈ gl, (β p.2).1 = p.1 ∧ p.2 < n
/-- Calls come to what the caller says. -/
def CallOk (call : Caller) : Prop := ∀ (f : FuncId) (args : List SV) (hp : Hp) (fs : Fs) (β : Bm) (w : World) (K : Value → World → Prop), Heap ρ w0 M β hp w → (∀ p ∈ fs, (p.1.ev ρ ≠ 0 ↔ p.2 = true)) → SV.oks ρ hp.n args → GlOk gl β hp.n →
  Goes ρ w0 M β hp (call f args hp fs) K → (∀ as w, (callFunc f as).run P w = .ok (.enter f as) w) ∧ Calls P f (SV.evs ρ β args).toArray w fun e w' => ∃ v, e = .returned v ∧ K v w'
end

section
variable {P : Program} {ρ : Env} {w0 : World} {M : Nat → Prop} {gl : Gl} {β : Bm} {w : World} {hp : Hp} {fs : Fs}

theorem Conc.gets {st : St} {a : Act} (h : Conc ρ w0 M gl β st a w) : (∀ x, (st.get gl x).ev ρ β = a.eval x) ∧ ∀ x, (st.get gl x).ok ρ st.hp.n := ⟨h.get_ev, h.get_ok⟩

theorem oks_append {n : Nat} {l m : List SV} (hl : SV.oks ρ n l) (hm : SV.oks ρ n m) : SV.oks ρ n (l ++ m) := by
  rw [SV.oks_mem] at *
  intro s hs
  rcases List.mem_append.1 hs with h | h
  · exact hl s h
  · exact hm s h
theorem evs_append (l m : List SV) : SV.evs ρ β (l ++ m) = SV.evs ρ β l ++ SV.evs ρ β m := by simp [SV.evs_map]

set_option maxHeartbeats 1000000 in
theorem effS_run {call : Caller} (hc : CallOk P ρ w0 M gl call) {g : Operand → SV} {o : Oper} {a : Act} (hg : ∀ x, (g x).ev ρ β = a.eval x) (hk : ∀ x, (g x).ok ρ hp.n) (hh : Heap ρ w0 M β hp w) (hf : ∀ p ∈ fs, (p.1.ev ρ ≠ 0 ↔ p.2 = true))
    (hgl : GlOk gl β hp.n) {next : Act → World → Prop} (Q : Exit → Act → World → Prop) (h : Goes ρ w0 M β hp (effS P call hp fs g o) fun v w' => next (a.put o.dst v) w') : o.wp P a w next Q := by
  obtain ⟨dst, op, type, pos, after, guard⟩ := o
  have hbad : ∀ n K, Goes ρ w0 M β hp (.bad n) K → False := fun _ _ h => h
  cases op <;> simp only [effS] at h <;> try (exact (hbad _ _ h).elim)
  case indexAddr t x i =>
    split at h
    · rename_i k e he
      have hi := hg i
      rw [he] at hi
      obtain ⟨fs', hf', h'⟩ := concT_holds hf h
      split at h'
      · rename_i r hr
        obtain ⟨q1, q2⟩ := iaddrS_run (β := β) (hk x) hr w
        have h2 := h' β w (Ext.refl _ _) (Nat.le_refl _) (Stay.refl _) hh hf' q2
        have hv : (SV.int k (.lit (e.ev ρ))).ev ρ β = a.eval i := hi
        rw [hg, hv] at q1
        unfold Oper.wp
        simp only [execOp, Sem.run_bind, q1, Result.andThen_ok, Sem.run_pure, Oper.upon]
        exact h2
      · exact False.elim h'
    · exact (hbad _ _ h).elim
  case index t x i =>
    split at h
    · rename_i k e he
      have hi := hg i
      rw [he] at hi
      obtain ⟨fs', hf', h'⟩ := concT_holds hf h
      split at h'
      · rename_i r hr
        obtain ⟨q1, q2⟩ := indexS_run (β := β) (hk x) hr w
        have h2 := h' β w (Ext.refl _ _) (Nat.le_refl _) (Stay.refl _) hh hf' q2
        have hv : (SV.int k (.lit (e.ev ρ))).ev ρ β = a.eval i := hi
        rw [hg, hv] at q1
        unfold Oper.wp
        simp only [execOp, Sem.run_bind, q1, Result.andThen_ok, Sem.run_pure, Oper.upon]
        exact h2
      · exact False.elim h'
    · exact (hbad _ _ h).elim
  case slice t x lo hi mx =>
    cases hi with
    | none =>
      cases mx with
      | some z => exact (hbad _ _ h).elim
      | none =>
        simp only at h
        obtain ⟨v, h1, h2⟩ := cutS_run hh hf h
        have he : (SV.ev ρ β ∘ g) = a.eval := funext hg
        rw [hg, Option.map_map, he] at h1
        unfold Oper.wp
        simp only [execOp, Sem.run_bind, Option.map_some, Option.map_none, h1, Result.andThen_ok, Sem.run_pure, Oper.upon]
        exact h2
    | some y =>
      cases mx with
      | some z => exact (hbad _ _ h).elim
      | none =>
        simp only at h
        split at h
        · rename_i k e he
          have hi := hg y
          rw [he] at hi
          obtain ⟨fs', hf', h'⟩ := concT_holds hf h
          split at h'
          · rename_i r hr
            obtain ⟨q1, q2⟩ := sliceH_run hh (hk x) hr
            have h2 := h' β w (Ext.refl _ _) (Nat.le_refl _) (Stay.refl _) hh hf' q2
            have hv : (SV.int k (.lit (e.ev ρ))).ev ρ β = a.eval y := hi
            simp only [Option.map_map, Option.map_some, Option.map_none, hv, hg] at q1
            have he : (SV.ev ρ β ∘ g) = a.eval := funext hg
            rw [he] at q1
            unfold Oper.wp
            simp only [execOp, Sem.run_bind, Option.map_some, Option.map_none, q1, Result.andThen_ok, Sem.run_pure, Oper.upon]
            exact h2
          · exact False.elim h'
        · exact (hbad _ _ h).elim
  case alloc e =>
    obtain ⟨v, w', h1, h2⟩ := allocS_run hh hf h
    unfold Oper.wp
    simp only [execOp, Sem.run_bind, h1, Result.andThen_ok, Sem.run_pure, Oper.upon]
    exact h2
  case box e x =>
    obtain ⟨v, w', h1, h2⟩ := boxS_run hh hf (hk x) h
    rw [hg] at h1
    unfold Oper.wp
    simp only [execOp, Sem.run_bind]
    rw [h1]
    exact h2
  case buildSlice t n ps =>
    obtain ⟨v, w', h1, h2⟩ := buildSliceS_run (parts := ps.map fun p => (p.1, g p.2)) hh hf (by
      intro p hp'
      simp only [Array.toList_map, List.mem_map] at hp'
      obtain ⟨q, _, rfl⟩ := hp'
      exact hk _) (by simpa using h)
    simp only [Array.map_map] at h1
    have he : ((fun p : Nat × SV => (p.1, SV.ev ρ β p.2)) ∘ fun p : Nat × Operand => (p.1, g p.2)) = fun p => (p.1, a.eval p.2) := funext fun p => by simp [hg]
    rw [he] at h1
    unfold Oper.wp
    simp only [execOp, Sem.run_bind]
    rw [show (fun x : Nat × Operand => match x with | (i, x) => (i, a.eval x)) = fun p => (p.1, a.eval p.2) from rfl, h1]
    simp only [Result.andThen_ok, Sem.run_pure, Oper.upon]
    exact h2
  case store t x y =>
    obtain ⟨w', h1, h2⟩ := storeS_run hh hf (hk y) h
    rw [hg, hg] at h1
    unfold Oper.wp
    simp only [execOp, Sem.run_bind, h1, Result.andThen_ok, Sem.run_pure, Oper.upon]
    exact h2
  case pick c x y =>
    split at h
    · rename_i e he
      have ec := hg c
      rw [he] at ec
      obtain ⟨fs', hf', h'⟩ := split_holds hf h
      unfold Oper.wp
      rcases h' with ⟨h1, h2⟩ | ⟨h1, h2⟩
      · have := h2 β w (Ext.refl _ _) (Nat.le_refl _) (Stay.refl _) hh hf' (hk x)
        rw [hg] at this
        simpa only [execOp, ← ec, SV.ev, asBool, Sem.run_bind, Sem.run_pure, Result.andThen_ok, ne_eq, h1, not_false_eq_true, decide_true, if_true, Oper.upon] using this
      · have := h2 β w (Ext.refl _ _) (Nat.le_refl _) (Stay.refl _) hh hf' (hk y)
        rw [hg] at this
        simpa only [execOp, ← ec, SV.ev, asBool, Sem.run_bind, Sem.run_pure, Result.andThen_ok, ne_eq, h1, not_true_eq_false, decide_false, Bool.false_eq_true, if_false, Oper.upon] using this
    · exact (hbad _ _ h).elim
  case makeSlice t l c =>
    obtain ⟨v, w', h1, h2⟩ := makeSliceS_run hh hf h
    rw [(litF_spec (n := 0) hf _).1, (litF_spec (n := 0) hf _).1, hg, hg] at h1
    unfold Oper.wp
    simp only [execOp, Sem.run_bind]
    rw [h1]
    exact h2
  case makeMap t r =>
    cases r with
    | some _ => exact (hbad _ _ h).elim
    | none =>
      have := makeMapS_run hh hf h
      unfold Oper.wp
      simp only [execOp, Instr.makeMap, Option.map_none, Sem.run_bind, run_newObj, World.alloc_eq, Result.andThen_ok, Sem.run_pure, Oper.upon]
      exact this
  case lookup t m k ok =>
    obtain ⟨v, w', h1, h2⟩ := lookupS_run hh hf h
    rw [hg, hg] at h1
    unfold Oper.wp
    simp only [execOp, Sem.run_bind]
    rw [h1]
    exact h2
  case insert t m k x =>
    obtain ⟨w', h1, h2⟩ := updateS_run hh hf (hk k) (hk x) h
    rw [hg, hg, hg] at h1
    unfold Oper.wp
    simp only [execOp, Sem.run_bind]
    rw [h1]
    exact h2
  case mapUpdate t m k x =>
    obtain ⟨w', h1, h2⟩ := updateS_run hh hf (hk k) (hk x) h
    rw [hg, hg, hg] at h1
    unfold Oper.wp
    simp only [execOp, Sem.run_bind]
    rw [h1]
    exact h2
  case call c =>
    obtain ⟨callee, as, ts⟩ := c
    cases callee with
    | value f =>
      simp only at h
      split at h
      · rename_i fid u v hfv
        have ef := hg f; have kf := hk f
        rw [hfv] at ef kf
        obtain ⟨c1, c2⟩ := hc fid _ hp fs β w _ hh hf (oks_append (oks_append kf.1 (list_map_ok hk _)) kf.2) hgl h
        unfold Oper.wp
        simp only [execOp, resolve, Sem.run_bind, ← ef, SV.ev, Deferred.ofValue, Sem.run_pure, Result.andThen_ok, invoke, c1, Oper.upon]
        have hargs : (SV.evs ρ β u).toArray ++ as.map a.eval ++ (SV.evs ρ β v).toArray = (SV.evs ρ β (u ++ as.toList.map g ++ v)).toArray := by
          rw [evs_append, evs_append, list_map_ev hg]
          apply Array.ext'
          simp
        rw [hargs]
        refine c2.mono fun e w' ⟨v', he, hk'⟩ => ?_
        subst he
        exact hk'
      · exact (hbad _ _ h).elim
    | invoke r m => exact (hbad _ _ h).elim
    | builtin b =>
      cases b <;> simp only at h <;> try (exact (hbad _ _ h).elim)
      case append =>
        split at h
        · rename_i s x has
          split at h
          · rename_i hts
            obtain ⟨v, w', h1, h2⟩ := appendS_run hh hf type hts (hk s) (hk x) h
            rw [hg, hg] at h1
            have ha : as.map a.eval = #[a.eval s, a.eval x] := by apply Array.ext'; simp [has]
            unfold Oper.wp
            simp only [execOp, resolve, invoke, builtin, ha, Sem.run_bind, Sem.run_pure, Result.andThen_ok]
            rw [h1]
            exact h2
          · exact (hbad _ _ h).elim
        · exact (hbad _ _ h).elim
      case copy =>
        split at h
        · rename_i d s has
          have hrun : ∃ v w', (Builtin.copy_ ts type #[(g d).ev ρ β, (g s).ev ρ β]).run P w = .ok v w' ∧ next (a.put dst v) w' := by
            split at h
            · rename_i k z off len0 len cap hs
              have hks := hk s
              rw [hs] at hks ⊢
              exact copyI_run hh hf hks type h
            · exact copyS_run hh hf type h
          obtain ⟨v, w', h1, h2⟩ := hrun
          rw [hg, hg] at h1
          have ha : as.map a.eval = #[a.eval d, a.eval s] := by apply Array.ext'; simp [has]
          unfold Oper.wp
          simp only [execOp, resolve, invoke, builtin, ha, Sem.run_bind, Sem.run_pure, Result.andThen_ok]
          rw [h1]
          exact h2
        · exact (hbad _ _ h).elim
      case len =>
        split at h
        · rename_i m has
          obtain ⟨v, w', h1, h2⟩ := mapLenS_run hh hf type h
          rw [hg] at h1
          have ha : as.map a.eval = #[a.eval m] := by apply Array.ext'; simp [has]
          unfold Oper.wp
          simp only [execOp, resolve, invoke, builtin, ha, Sem.run_bind, Sem.run_pure, Result.andThen_ok]
          rw [h1]
          exact h2
        · exact (hbad _ _ h).elim

/-- The rest goes on from a state that has grown out of this one. -/
def Later (ρ : Env) (w0 : World) (M : Nat → Prop) (gl : Gl) (β : Bm) (hp : Hp) (st' : St) (K : Act → World → Prop) : Prop :=
  ∀ (β' : Bm) (a' : Act) (w' : World), Ext hp.n β β' → hp.n ≤ st'.hp.n → Stay hp st'.hp → Conc ρ w0 M gl β' st' a' w' → K a' w'

def doOp (P : Program) (gl : Gl) (call : Caller) (st : St) (o : Oper) : T St :=
  match pureS' P st.facts st.hp (st.get gl) o with
  | some r => .ok (st.put o.dst r)
  | none => (effS P call st.hp st.facts (st.get gl) o).bind fun out => .ok ({ st with hp := out.hp, facts := out.fs }.put o.dst out.v)

theorem Conc.put_out {st : St} {a : Act} {o : Option Tmp} {out : Out} {β' : Bm} {w' : World} (hst : Conc ρ w0 M gl β st a w) (hx : Ext st.hp.n β β') (hl : st.hp.n ≤ out.hp.n) (hh : Heap ρ w0 M β' out.hp w')
    (hf : ∀ p ∈ out.fs, (p.1.ev ρ ≠ 0 ↔ p.2 = true)) (hv : out.v.ok ρ out.hp.n) : Conc ρ w0 M gl β' ({ st with hp := out.hp, facts := out.fs }.put o out.v) (a.put o (out.v.ev ρ β')) w' :=
  (hst.go hx hl hh hf).put (st := { st with hp := out.hp, facts := out.fs }) hv o

theorem doOp_run {call : Caller} (hc : CallOk P ρ w0 M gl call) {st : St} {o : Oper} {a : Act} (hst : Conc ρ w0 M gl β st a w) {K : Act → World → Prop} (Q : Exit → Act → World → Prop)
    (h : (doOp P gl call st o).holds ρ fun st' => Later ρ w0 M gl β st.hp st' K) : o.wp P a w K Q := by
  unfold doOp at h
  split at h
  · rename_i r hr
    obtain ⟨h1, h2⟩ := pureS'_run hst.get_ev hst.get_ok hst.heap.sees hst.facts hr
    unfold Oper.wp
    rw [h1]
    refine h β _ w (Ext.refl _ _) ?_ ?_ (hst.put h2 o.dst)
    · rw [St.put_hp]; exact Nat.le_refl _
    · rw [St.put_hp]; exact Stay.refl _
  · rw [T.holds_bind] at h
    refine effS_run hc hst.get_ev hst.get_ok hst.heap hst.facts hst.gl Q ?_
    refine T.holds_mono (fun out ho β' w' hx hl hs hh hf hv => ?_) h
    refine ho β' _ w' hx ?_ ?_ (hst.put_out hx hl hh hf hv)
    · rw [St.put_hp]; exact hl
    · rw [St.put_hp]; exact hs

/-! ### Guards -/
def isBoolV : Value → Bool
  | .bool _ => true
  | _ => false
inductive Gd where
  | yes | no | ask (e : E) (want : Bool) | lost
def guardS (ops : Array Oper) (st : St) (o : Oper) : Gd :=
  match o.guard with
  | none => .yes
  | some (j, want) => match (ops[j]?).bind (·.dst) with
    | none => .no
    | some t => match st.tmp? t with
      | none => .no
      | some (.bool e) => .ask e want
      | some (.raw v) => if isBoolV v then .lost else .no
      | some _ => .no
theorem guardS_yes {ops : Array Oper} {st : St} {o : Oper} {a : Act} (hst : Conc ρ w0 M gl β st a w) (h : guardS ops st o = .yes) : Region.wanted o (yielded ops a.tmps) = true := by
  unfold guardS at h
  unfold Region.wanted
  split at h
  · rename_i hg; rw [hg]
  · split at h <;> first | cases h | skip
    split at h <;> first | cases h | skip
    split at h <;> cases h
theorem guardS_no {ops : Array Oper} {st : St} {o : Oper} {a : Act} (hst : Conc ρ w0 M gl β st a w) (h : guardS ops st o = .no) : Region.wanted o (yielded ops a.tmps) = false := by
  unfold guardS at h
  unfold Region.wanted
  split at h
  · cases h
  · rename_i j want hg
    rw [hg]
    have key : yielded ops a.tmps j = none := by
      unfold yielded
      split at h
      · rename_i hd; rw [hd]; rfl
      · rename_i t hd
        rw [hd]
        have ht : a.tmps[t]? = (st.tmp? t).map (SV.ev ρ β) := hst.tmp_ev t
        simp only [Option.bind_some, ht]
        split at h
        · rename_i hn; rw [hn]; rfl
        · cases h
        · rename_i v hs
          split at h
          · cases h
          · rename_i hb
            rw [hs]
            simp only [Option.map_some, SV.ev]
            cases v <;> first | rfl | (exact absurd rfl hb)
        · rename_i s hne1 hne2 hs
          rw [hs]
          simp only [Option.map_some]
          cases s <;> first | rfl | (exact (hne1 _ rfl).elim) | (exact (hne2 _ rfl).elim)
    show (yielded ops a.tmps j == some want) = false
    rw [key]
    rfl
theorem guardS_ask {ops : Array Oper} {st : St} {o : Oper} {a : Act} {e : E} {want : Bool} (hst : Conc ρ w0 M gl β st a w) (h : guardS ops st o = .ask e want) : Region.wanted o (yielded ops a.tmps) = (decide (e.ev ρ ≠ 0) == want) := by
  unfold guardS at h
  unfold Region.wanted
  split at h
  · cases h
  · rename_i j want' hg
    rw [hg]
    split at h
    · cases h
    · rename_i t hd
      split at h
      · cases h
      · rename_i e' hs
        simp only [Gd.ask.injEq] at h
        obtain ⟨rfl, rfl⟩ := h
        have ht : a.tmps[t]? = (st.tmp? t).map (SV.ev ρ β) := hst.tmp_ev t
        show (yielded ops a.tmps j == some want') = _
        unfold yielded
        rw [hd]
        simp only [Option.bind_some, ht, hs, Option.map_some, SV.ev]
        rfl
      · split at h <;> cases h
      · cases h

/-- One operation with its guard. -/
def runOp (P : Program) (gl : Gl) (call : Caller) (ops : Array Oper) (o : Oper) (st : St) : T St :=
  match guardS ops st o with
  | .yes => doOp P gl call st o
  | .no => .ok (st.put o.dst undefS)
  | .ask e want => split st.facts e (fun fs => if want then doOp P gl call { st with facts := fs } o else .ok ({ st with facts := fs }.put o.dst undefS))
      (fun fs => if want then .ok ({ st with facts := fs }.put o.dst undefS) else doOp P gl call { st with facts := fs } o)
  | .lost => .bad 120
theorem Conc.facts_to {st : St} {a : Act} {fs : Fs} (hst : Conc ρ w0 M gl β st a w) (hf : ∀ p ∈ fs, (p.1.ev ρ ≠ 0 ↔ p.2 = true)) : Conc ρ w0 M gl β { st with facts := fs } a w :=
  ⟨hst.size, hst.tmps, hst.defers, hst.good, hst.heap, hf, hst.gl⟩
theorem skip_later {st : St} {o : Oper} {a : Act} (hst : Conc ρ w0 M gl β st a w) {K : Act → World → Prop} (h : (T.ok (st.put o.dst undefS)).holds ρ fun st' => Later ρ w0 M gl β st.hp st' K) : K (a.put o.dst undef) w := by
  refine h β _ w (Ext.refl _ _) ?_ ?_ (hst.put (s := undefS) trivial o.dst)
  · rw [St.put_hp]; exact Nat.le_refl _
  · rw [St.put_hp]; exact Stay.refl _
theorem runOp_run {call : Caller} (hc : CallOk P ρ w0 M gl call) {ops : Array Oper} {st : St} {o : Oper} {a : Act} (hst : Conc ρ w0 M gl β st a w) {K : Act → World → Prop} (Q : Exit → Act → World → Prop)
    (h : (runOp P gl call ops o st).holds ρ fun st' => Later ρ w0 M gl β st.hp st' K) :
    (Region.wanted o (yielded ops a.tmps) = true ∧ o.wp P a w K Q) ∨ (Region.wanted o (yielded ops a.tmps) = false ∧ K (a.put o.dst undef) w) := by
  unfold runOp at h
  split at h
  · rename_i hg
    exact .inl ⟨guardS_yes hst hg, doOp_run hc hst Q h⟩
  · rename_i hg
    exact .inr ⟨guardS_no hst hg, skip_later hst h⟩
  · rename_i e want hg
    have hw := guardS_ask hst hg
    obtain ⟨fs', hf', h'⟩ := split_holds hst.facts h
    have hst' := hst.facts_to hf'
    rcases h' with ⟨he, h'⟩ | ⟨he, h'⟩
    · cases want
      · simp only [Bool.false_eq_true, if_false] at h'
        exact .inr ⟨by rw [hw]; simp [he], skip_later hst' h'⟩
      · simp only [if_true] at h'
        exact .inl ⟨by rw [hw]; simp [he], doOp_run hc hst' Q h'⟩
    · cases want
      · simp only [Bool.false_eq_true, if_false] at h'
        exact .inl ⟨by rw [hw]; simp [he], doOp_run hc hst' Q h'⟩
      · simp only [if_true] at h'
        exact .inr ⟨by rw [hw]; simp [he], skip_later hst' h'⟩
  · exact h.elim
theorem Later.trans {st1 st2 : St} {β1 : Bm} {K : Act → World → Prop} (hx : Ext hp.n β β1) (hl : hp.n ≤ st1.hp.n) (hs : Stay hp st1.hp) (h : Later ρ w0 M gl β hp st2 K) : Later ρ w0 M gl β1 st1.hp st2 K :=
  fun β' a' w' hx' hl' hs' hc => h β' a' w' (hx.trans hx' hl) (Nat.le_trans hl hl') (hs.trans hs') hc

/-- Operations in their order. -/
def seqOps (P : Program) (gl : Gl) (call : Caller) (ops : Array Oper) : List Oper → St → T St
  | [], st => .ok st
  | o :: l, st => (runOp P gl call ops o st).bind (seqOps P gl call ops l)
theorem seqOps_run {call : Caller} (hc : CallOk P ρ w0 M gl call) {ops : Array Oper} {Q : Exit → Act → World → Prop} : ∀ (k : Nat) (l : List Oper), (∀ i o, l[i]? = some o → ops[k + i]? = some o) → ∀ (β : Bm) (st : St) (a : Act) (w : World), Conc ρ w0 M gl β st a w →
    ((seqOps P gl call ops l st).holds ρ fun st' => Later ρ w0 M gl β st.hp st' (Q .normal)) → wpOps P ops Q (List.range' k l.length) a w
  | k, [], _, β, st, a, w, hst, h => by
    simp only [List.length_nil, List.range'_zero, wpOps]
    exact h β a w (Ext.refl _ _) (Nat.le_refl _) (Stay.refl _) hst
  | k, o :: l, hl, β, st, a, w, hst, h => by
    have ho := hl 0 o rfl
    simp only [Nat.add_zero] at ho
    simp only [List.length_cons, List.range'_succ, wpOps, ho]
    simp only [seqOps, T.holds_bind] at h
    have key : ∀ st', ((seqOps P gl call ops l st').holds ρ fun st'' => Later ρ w0 M gl β st.hp st'' (Q .normal)) → Later ρ w0 M gl β st.hp st' (wpOps P ops Q (List.range' (k + 1) l.length)) :=
      fun st' h' β' a' w' hx hl' hs hst' => seqOps_run hc (k + 1) l (fun i o' hi => by rw [show k + 1 + i = k + (i + 1) by omega]; exact hl (i + 1) o' hi) β' st' a' w' hst' (T.holds_mono (fun st'' h'' => h''.trans hx hl' hs) h')
    rcases runOp_run hc hst Q (T.holds_mono key h) with ⟨h1, h2⟩ | ⟨h1, h2⟩
    · simp only [h1, if_true]; exact .inl h2
    · simp only [h1, Bool.false_eq_true, if_false]; exact h2
theorem seqRegion_run {call : Caller} (hc : CallOk P ρ w0 M gl call) {id : Nat} {ops : Array Oper} {Q : Exit → Act → World → Prop} {st : St} {a : Act} (hst : Conc ρ w0 M gl β st a w)
    (h : (seqOps P gl call ops ops.toList st).holds ρ fun st' => Later ρ w0 M gl β st.hp st' (Q .normal)) : (Code.region id ops false).wp P Q a w := by
  refine wp_region ?_
  have := seqOps_run (Q := Q) hc 0 ops.toList (fun i o hi => by simpa using hi) β st a w hst h
  rwa [Array.length_toList, ← List.range_eq_range'] at this
end
end Go.Proofs.YtfcpmapfhgibpaaDoor.SX
