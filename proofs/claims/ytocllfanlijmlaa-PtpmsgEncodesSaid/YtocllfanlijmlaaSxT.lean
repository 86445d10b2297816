/- Trees of ways, and the symbolic state with what it says of a frame and a world. Of no program. -/
import Derived.Test.YtocllfanlijmlaaSxN
import Derived.Laws.Rows
import Derived.Below
namespace Go.Proofs.Ytocllfanlijmlaa.SX
open Go
set_option linter.unusedVariables false

/-- The ways of a run: tests of integers, and at the ends what each way comes to. -/
inductive T (α : Type) where
  | ok (a : α)
  | br (c : E) (t e : T α)
  | both (t e : T α)
  | bad (n : Nat)
def T.bind {α γ : Type} : T α → (α → T γ) → T γ
  | .ok a, f => f a
  | .br c t e, f => .br c (t.bind f) (e.bind f)
  | .both t e, f => .both (t.bind f) (e.bind f)
  | .bad n, _ => .bad n
def T.holds {α : Type} (ρ : Env) : T α → (α → Prop) → Prop
  | .ok a, Q => Q a
  | .br c t e, Q => (c.ev ρ ≠ 0 → t.holds ρ Q) ∧ (c.ev ρ = 0 → e.holds ρ Q)
  | .both t e, Q => t.holds ρ Q ∧ e.holds ρ Q
  | .bad _, _ => False
theorem T.holds_bind {α γ : Type} {ρ : Env} {f : α → T γ} {Q : γ → Prop} : ∀ {t : T α}, (t.bind f).holds ρ Q ↔ t.holds ρ fun a => (f a).holds ρ Q
  | .ok _ => Iff.rfl
  | .br _ t e => by simp only [T.bind, T.holds, T.holds_bind (t := t), T.holds_bind (t := e)]
  | .both t e => by simp only [T.bind, T.holds, T.holds_bind (t := t), T.holds_bind (t := e)]
  | .bad _ => Iff.rfl
theorem T.holds_mono {α : Type} {ρ : Env} {Q Q' : α → Prop} (h : ∀ a, Q a → Q' a) : ∀ {t : T α}, t.holds ρ Q → t.holds ρ Q'
  | .ok _, ht => h _ ht
  | .br _ t e, ht => ⟨fun hc => T.holds_mono h (ht.1 hc), fun hc => T.holds_mono h (ht.2 hc)⟩
  | .both t e, ht => ⟨T.holds_mono h ht.1, T.holds_mono h ht.2⟩
  | .bad _, ht => ht.elim
theorem T.holds_and {α : Type} {ρ : Env} {Q Q' : α → Prop} : ∀ {t : T α}, t.holds ρ Q → t.holds ρ Q' → t.holds ρ fun a => Q a ∧ Q' a
  | .ok _, h, h' => ⟨h, h'⟩
  | .br _ t e, h, h' => ⟨fun hc => T.holds_and (h.1 hc) (h'.1 hc), fun hc => T.holds_and (h.2 hc) (h'.2 hc)⟩
  | .both t e, h, h' => ⟨T.holds_and h.1 h'.1, T.holds_and h.2 h'.2⟩
  | .bad _, h, _ => h.elim
def T.map {α γ : Type} (f : α → γ) (t : T α) : T γ := t.bind fun a => .ok (f a)

/-- What a box holds: cells (tail = 0: just these; tail = s + 1: and more behind them, room for elements of s cells), a map's entries, cells that are only read ('ro'), or nothing that is known. -/
inductive Bx where
  | cells (c : List SV) (ty : TypeId) (tail : Nat)
  | map (es : List (SV × SV × Nat)) (clock : Nat)
  | ro (c : List SV)
  | gone
structure Box where
  rw : Bool
  c : Bx
/-- The known heap: n boxes. (A function: what has not been written since is read past in one step.) -/
structure Hp where
  n : Nat
  box : Nat → Box
def Hp.nil : Hp := ⟨0, fun _ => ⟨false, .gone⟩⟩
def Hp.at (hp : Hp) (k : Nat) : Option Box := bif Nat.blt k hp.n then some (hp.box k) else none
def Hp.push (hp : Hp) (b : Box) : Hp := ⟨hp.n + 1, fun k => bif Nat.beq k hp.n then b else hp.box k⟩
def Hp.put (hp : Hp) (j : Nat) (b : Box) : Hp := ⟨hp.n, fun k => bif Nat.beq k j then b else hp.box k⟩
theorem blt_iff (a b : Nat) : Nat.blt a b = decide (a < b) := by
  by_cases h : a < b
  · simp only [h, decide_true]; exact Nat.ble_eq_true_of_le h
  · simp only [h, decide_false]
    cases hb : Nat.blt a b
    · rfl
    · exact absurd (Nat.le_of_ble_eq_true hb) h
theorem beq_iff (a b : Nat) : Nat.beq a b = decide (a = b) := by
  by_cases h : a = b
  · subst h; simp
  · simp only [h, decide_false]
    cases hb : Nat.beq a b
    · rfl
    · exact absurd (Nat.eq_of_beq_eq_true hb) h
theorem Hp.at_some {hp : Hp} {k : Nat} {b : Box} : hp.at k = some b ↔ k < hp.n ∧ hp.box k = b := by
  unfold Hp.at
  rw [blt_iff]
  by_cases h : k < hp.n <;> simp [h]
theorem Hp.at_lt {hp : Hp} {k : Nat} {b : Box} (h : hp.at k = some b) : k < hp.n := (Hp.at_some.1 h).1
theorem Hp.at_ge {hp : Hp} {k : Nat} (h : hp.n ≤ k) : hp.at k = none := by
  unfold Hp.at
  rw [blt_iff]
  simp [Nat.not_lt.2 h]
@[simp] theorem Hp.n_push (hp : Hp) (b : Box) : (hp.push b).n = hp.n + 1 := rfl
@[simp] theorem Hp.n_put (hp : Hp) (k : Nat) (b : Box) : (hp.put k b).n = hp.n := rfl
theorem Hp.at_push_lt {hp : Hp} {k : Nat} (b : Box) (h : k < hp.n) : (hp.push b).at k = hp.at k := by
  unfold Hp.at Hp.push
  simp only [blt_iff, beq_iff]
  simp [h, Nat.lt_succ_of_lt h, Nat.ne_of_lt h]
theorem Hp.at_push_n (hp : Hp) (b : Box) : (hp.push b).at hp.n = some b := by
  unfold Hp.at Hp.push
  simp only [blt_iff, beq_iff]
  simp
theorem Hp.at_put_same {hp : Hp} {k : Nat} (b : Box) (h : k < hp.n) : (hp.put k b).at k = some b := by
  unfold Hp.at Hp.put
  simp only [blt_iff, beq_iff]
  simp [h]
theorem Hp.at_put_ne {hp : Hp} {j k : Nat} (b : Box) (h : k ≠ j) : (hp.put j b).at k = hp.at k := by
  unfold Hp.at Hp.put
  simp only [blt_iff, beq_iff]
  simp [h]
def Bx.live : Bx → Bool
  | .gone => false
  | .ro c => !c.isEmpty
  | _ => true
def entOf (ρ : Env) (β : Bm) (e : SV × SV × Nat) : MapEntry := { key := e.1.ev ρ β, val := e.2.1.ev ρ β, born := e.2.2 }
def Bx.lies (ρ : Env) (β : Bm) (b : Nat × Nat) (w : World) : Bx → Prop
  | .cells c ty 0 => w.heap[b.1]? = some (.cells (SV.evs ρ β c).toArray ty (0, 0))
  | .cells c ty (s + 1) => ∃ rest : List Value, w.heap[b.1]? = some (.cells (SV.evs ρ β c ++ rest).toArray ty (0, 0)) ∧ c.length + rest.length = b.2 * s
  | .map es clock => w.heap[b.1]? = some (.map (es.map (entOf ρ β)).toArray clock)
  | .ro c => ∀ (i : Nat) (v : Value), (SV.evs ρ β c)[i]? = some v → w.cell? ⟨b.1, i, none⟩ = some v
  | .gone => True
def Bx.ok (ρ : Env) (n : Nat) : Bx → Prop
  | .cells c _ _ => SV.oks ρ n c
  | .map es _ => ∀ e ∈ es, e.1.ok ρ n ∧ e.2.1.ok ρ n
  | .ro c => SV.oks ρ n c
  | .gone => True

structure St where
  sz : Nat
  tmps : Nat → SV
  hp : Hp
  facts : List (E × Bool)

/-- What may not change since the world w0, but for the blocks of M. -/
structure Kept (w0 : World) (M : Nat → Prop) (w : World) : Prop where
  os : w.os = w0.os
  tape : w.tape = w0.tape
  output : w.output = w0.output
  size : w0.heap.size ≤ w.heap.size
  block : ∀ i, i < w0.heap.size → ¬ M i → w.heap[i]? = w0.heap[i]?

structure Heap (ρ : Env) (w0 : World) (M : Nat → Prop) (β : Bm) (hp : Hp) (w : World) : Prop where
  lies : ∀ (k : Nat) (b : Box), hp.at k = some b → b.c.lies ρ β (β k) w
  inj : ∀ (j k : Nat) (b b' : Box), hp.at j = some b → hp.at k = some b' → b.c.live = true → b'.c.live = true → (β j).1 = (β k).1 → j = k
  mine : ∀ (k : Nat) (b : Box), hp.at k = some b → b.rw = true → b.c.live = true → M (β k).1 ∨ w0.heap.size ≤ (β k).1
  good : ∀ (k : Nat) (b : Box), hp.at k = some b → b.c.ok ρ hp.n
  kept : Kept w0 M w

/-- The known cells of variables of the program: global g is box k. -/
abbrev Gl := List (Nat × Nat)

structure Conc (ρ : Env) (w0 : World) (M : Nat → Prop) (gl : Gl) (β : Bm) (st : St) (a : Act) (w : World) : Prop where
  size : a.tmps.size = st.sz
  tmps : ∀ i, i < st.sz → a.tmps[i]? = some ((st.tmps i).ev ρ β)
  defers : a.defers = []
  good : ∀ i, (st.tmps i).ok ρ st.hp.n
  heap : Heap ρ w0 M β st.hp w
  facts : ∀ p ∈ st.facts, (p.1.ev ρ ≠ 0 ↔ p.2 = true)
  gl : ∀ p ∈ gl, (β p.2).1 = p.1 ∧ p.2 < st.hp.n

def undefS : SV := .raw undef
def glookup : Gl → Nat → SV
  | [], g => .raw (.pointer (some ⟨g, 0, none⟩))
  | (h, k) :: l, g => if h = g then .ptr k 0 else glookup l g
def St.tmp? (st : St) (t : Nat) : Option SV := bif Nat.blt t st.sz then some (st.tmps t) else none
def St.get (gl : Gl) (st : St) : Operand → SV
  | .tmp t => bif Nat.blt t st.sz then st.tmps t else undefS
  | .const v => ofValue v
  | .global g => glookup gl g
  | .func f => .func f [] []
def St.put (st : St) (dst : Option Tmp) (s : SV) : St :=
  match dst with
  | some d => { st with tmps := fun i => bif Nat.beq i d then s else st.tmps i }
  | none => st

section
variable {ρ : Env} {w0 : World} {M : Nat → Prop} {gl : Gl} {β : Bm} {st : St} {a : Act} {w : World}

theorem glookup_spec {n : Nat} (hg : ∀ p ∈ gl, (β p.2).1 = p.1 ∧ p.2 < n) (g : Nat) : (glookup gl g).ev ρ β = .pointer (some ⟨g, 0, none⟩) ∧ (glookup gl g).ok ρ n := by
  induction gl with
  | nil => exact ⟨rfl, trivial⟩
  | cons p l ih =>
    obtain ⟨h, k⟩ := p
    unfold glookup
    split
    · rename_i he
      subst he
      have := hg _ (List.mem_cons_self ..)
      exact ⟨by simp only [SV.ev]; rw [this.1], this.2⟩
    · exact ih fun p hp => hg p (List.mem_cons_of_mem _ hp)

theorem Conc.tmp_ev (h : Conc ρ w0 M gl β st a w) (t : Nat) : a.tmps[t]? = (st.tmp? t).map (SV.ev ρ β) := by
  unfold St.tmp?
  rw [blt_iff]
  by_cases ht : t < st.sz
  · simp [ht, h.tmps t ht]
  · rw [Array.getElem?_eq_none (by rw [h.size]; omega)]; simp [ht]
theorem Conc.get_ev (h : Conc ρ w0 M gl β st a w) (x : Operand) : (st.get gl x).ev ρ β = a.eval x := by
  cases x with
  | tmp t =>
    simp only [St.get, Act.eval]
    rw [Array.getD_eq_getD_getElem?, h.tmp_ev t]
    unfold St.tmp?
    cases Nat.blt t st.sz <;> rfl
  | const v => exact ofValue_ev ρ β v
  | global g => exact (glookup_spec h.gl g).1
  | func f => rfl
theorem Conc.get_ok (h : Conc ρ w0 M gl β st a w) (x : Operand) : (st.get gl x).ok ρ st.hp.n := by
  cases x with
  | tmp t =>
    simp only [St.get]
    cases Nat.blt t st.sz
    · trivial
    · exact h.good t
  | const v => exact ofValue_ok ρ _ v
  | global g => exact (glookup_spec h.gl g).2
  | func f => exact ⟨trivial, trivial⟩
theorem St.put_hp (st : St) (d : Option Tmp) (s : SV) : (st.put d s).hp = st.hp := by cases d <;> rfl
theorem St.put_facts (st : St) (d : Option Tmp) (s : SV) : (st.put d s).facts = st.facts := by cases d <;> rfl
theorem oks_set {ρ : Env} {n : Nat} {l : List SV} {s : SV} (h : SV.oks ρ n l) (hs : s.ok ρ n) (i : Nat) : SV.oks ρ n (l.set i s) := by
  rw [SV.oks_mem] at *
  intro x hx
  rcases List.mem_or_eq_of_mem_set hx with h' | h'
  · exact h x h'
  · exact h' ▸ hs
theorem evs_set (ρ : Env) (β : Bm) (l : List SV) (s : SV) (i : Nat) : SV.evs ρ β (l.set i s) = (SV.evs ρ β l).set i (s.ev ρ β) := by
  simp only [SV.evs_map, List.map_set]
theorem Conc.put (h : Conc ρ w0 M gl β st a w) {s : SV} (hs : s.ok ρ st.hp.n) (d : Option Tmp) : Conc ρ w0 M gl β (st.put d s) (a.put d (s.ev ρ β)) w := by
  cases d with
  | none => exact h
  | some d =>
    refine ⟨by simp only [Act.put, St.put, Array.size_setIfInBounds]; exact h.size, fun i hi => ?_, h.defers, fun i => ?_, h.heap, h.facts, h.gl⟩
    · simp only [Act.put, St.put, beq_iff] at *
      by_cases he : i = d
      · subst he
        simp [h.size, hi]
      · rw [Array.getElem?_setIfInBounds_ne (Ne.symm he), h.tmps i hi]; simp [he]
    · simp only [St.put, beq_iff]
      by_cases he : i = d
      · simp only [he, decide_true, cond_true]; exact hs
      · simp only [he, decide_false, cond_false]; exact h.good i
/-- The same frame, in a world and a heap that go on. -/
theorem Conc.go {β' : Bm} {hp' : Hp} {fs : List (E × Bool)} {w' : World} (h : Conc ρ w0 M gl β st a w) (hx : Ext st.hp.n β β') (hl : st.hp.n ≤ hp'.n) (hh : Heap ρ w0 M β' hp' w')
    (hf : ∀ p ∈ fs, (p.1.ev ρ ≠ 0 ↔ p.2 = true)) : Conc ρ w0 M gl β' { st with hp := hp', facts := fs } a w' :=
  ⟨h.size, fun i hi => by simp only; rw [SV.ev_ext hx _ (h.good i)]; exact h.tmps i hi, h.defers, fun i => SV.ok_mono hl _ (h.good i), hh, hf, fun p hp => by
    have := h.gl p hp
    exact ⟨by rw [hx _ this.2]; exact this.1, Nat.lt_of_lt_of_le this.2 hl⟩⟩
end

/-! ### Tests -/
/-- A negation's body. -/
def E.neg? : E → Option E
  | .bin .eq _ x (.lit 0) => if x.isB then some x else none
  | _ => none
theorem E.neg?_spec {ρ : Env} {c x : E} (h : c.neg? = some x) : (c.ev ρ ≠ 0 ↔ x.ev ρ = 0) := by
  unfold E.neg? at h
  split at h
  · split at h
    · obtain rfl := Option.some.inj h
      rename_i y hb
      by_cases hy : y.ev ρ = 0 <;> simp [E.ev, BOp.ev, hy]
    · cases h
  · cases h
/-- A test that is a linear form already. -/
def E.plain : E → Bool
  | .bin .lt _ (.var _) (.lit _) => true
  | .bin .lt _ (.lit _) (.var _) => true
  | .bin .eq _ (.var _) (.lit _) => true
  | .bin .eq _ (.app _ _ _) (.lit _) => true
  | _ => false
/-- What is known of a test: as it stands, or as a linear form. -/
def knownC (fs : List (E × Bool)) (c : E) : Option Bool :=
  match known fs c with
  | some b => some b
  | none => if c.plain then none else match canon fs c with
    | .lit n => some (n != 0)
    | c' => match c'.neg? with
      | some x => (known fs x).map fun b => !b
      | none => known fs c'
theorem neg?_known {ρ : Env} {fs : List (E × Bool)} (hf : ∀ p ∈ fs, (p.1.ev ρ ≠ 0 ↔ p.2 = true)) {c x : E} {b : Bool} (hx : c.neg? = some x) (h : ((known fs x).map fun b => !b) = some b) : (c.ev ρ ≠ 0 ↔ b = true) := by
  have h1 := E.neg?_spec (ρ := ρ) hx
  cases hk : known fs x with
  | none => simp [hk] at h
  | some u =>
    simp only [hk, Option.map_some, Option.some.injEq] at h
    have h2 := known_spec hf hk
    subst h
    rw [h1]
    cases u
    · have : ¬ x.ev ρ ≠ 0 := fun h => by simpa using h2.1 h
      simp only [Bool.not_false, iff_true]
      by_cases h0 : x.ev ρ = 0
      · exact h0
      · exact absurd h0 this
    · have := h2.2 rfl
      simp [this]
theorem knownC_spec {ρ : Env} {c : E} {b : Bool} {fs : List (E × Bool)} (hf : ∀ p ∈ fs, (p.1.ev ρ ≠ 0 ↔ p.2 = true)) (h : knownC fs c = some b) : (c.ev ρ ≠ 0 ↔ b = true) := by
  unfold knownC at h
  split at h
  · rename_i v hv; obtain rfl := Option.some.inj h; exact known_spec hf hv
  · have hc := canon_ev (ρ := ρ) (fs := fs) hf c
    rw [← hc]
    split at h
    · cases h
    split at h
    · rename_i n hn
      obtain rfl := Option.some.inj h
      rw [hn]
      by_cases h0 : n = 0 <;> simp [E.ev, h0]
    · split at h
      · rename_i x hx; exact neg?_known hf hx h
      · exact known_spec hf h
/-- The facts with one more, as it stands and as a linear form. -/
def learn (fs : List (E × Bool)) (c : E) (b : Bool) : List (E × Bool) :=
  if c.plain then (c, b) :: fs else
  let c' := canon fs c
  if c'.beq c then (c, b) :: fs else match c'.neg? with
    | some x => (x, !b) :: (c, b) :: fs
    | none => (c', b) :: (c, b) :: fs
theorem learn_ok {ρ : Env} {c : E} {b : Bool} {fs : List (E × Bool)} (hf : ∀ p ∈ fs, (p.1.ev ρ ≠ 0 ↔ p.2 = true)) (h : c.ev ρ ≠ 0 ↔ b = true) : ∀ p ∈ learn fs c b, (p.1.ev ρ ≠ 0 ↔ p.2 = true) := by
  have hc := canon_ev (ρ := ρ) (fs := fs) hf c
  have base : ∀ p ∈ (c, b) :: fs, (p.1.ev ρ ≠ 0 ↔ p.2 = true) := fun p hp => by
    rcases List.mem_cons.1 hp with rfl | hp
    · exact h
    · exact hf p hp
  unfold learn
  simp only
  split
  · exact base
  split
  · exact base
  · split
    · rename_i x hx
      have h1 := E.neg?_spec (ρ := ρ) hx
      rw [hc] at h1
      intro p hp
      rcases List.mem_cons.1 hp with rfl | hp
      · show x.ev ρ ≠ 0 ↔ (!b) = true
        cases b
        · have : ¬ c.ev ρ ≠ 0 := fun h0 => by simpa using h.1 h0
          simp only [Bool.not_false, iff_true]
          exact fun h0 => this (h1.2 h0)
        · have := h1.1 (h.2 rfl)
          simp [this]
      · exact base p hp
    · intro p hp
      rcases List.mem_cons.1 hp with rfl | hp
      · show (canon fs c).ev ρ ≠ 0 ↔ b = true
        rw [hc]; exact h
      · exact base p hp
def split1 {α : Type} (fs : List (E × Bool)) (c : E) (f g : List (E × Bool) → T α) : T α :=
  match c with
  | .lit n => if n = 0 then g fs else f fs
  | c => match knownC fs c with
    | some true => f fs
    | some false => g fs
    | none => .br c (f (learn fs c true)) (g (learn fs c false))
/-- The test 'c is not 0'. -/
def split {α : Type} (fs : List (E × Bool)) (c : E) (f g : List (E × Bool) → T α) : T α :=
  match c.neg? with
  | some x => split1 fs x g f
  | none => split1 fs c f g
theorem split1_holds {α : Type} {ρ : Env} {fs : List (E × Bool)} {c : E} {f g : List (E × Bool) → T α} {Q : α → Prop} (hf : ∀ p ∈ fs, (p.1.ev ρ ≠ 0 ↔ p.2 = true)) (h : (split1 fs c f g).holds ρ Q) :
    ∃ fs', (∀ p ∈ fs', (p.1.ev ρ ≠ 0 ↔ p.2 = true)) ∧ ((c.ev ρ ≠ 0 ∧ (f fs').holds ρ Q) ∨ (c.ev ρ = 0 ∧ (g fs').holds ρ Q)) := by
  unfold split1 at h
  split at h
  · split at h
    · rename_i hn; exact ⟨fs, hf, .inr ⟨hn, h⟩⟩
    · rename_i hn; exact ⟨fs, hf, .inl ⟨hn, h⟩⟩
  · split at h
    · rename_i hk; exact ⟨fs, hf, .inl ⟨(knownC_spec hf hk).2 rfl, h⟩⟩
    · rename_i hk; exact ⟨fs, hf, .inr ⟨by
        have := knownC_spec hf hk
        simpa using this, h⟩⟩
    · by_cases hc : c.ev ρ = 0
      · exact ⟨_, learn_ok hf (by simp [hc]), .inr ⟨hc, h.2 hc⟩⟩
      · exact ⟨_, learn_ok hf (by simp [hc]), .inl ⟨hc, h.1 hc⟩⟩
theorem split_holds {α : Type} {ρ : Env} {fs : List (E × Bool)} {c : E} {f g : List (E × Bool) → T α} {Q : α → Prop} (hf : ∀ p ∈ fs, (p.1.ev ρ ≠ 0 ↔ p.2 = true)) (h : (split fs c f g).holds ρ Q) :
    ∃ fs', (∀ p ∈ fs', (p.1.ev ρ ≠ 0 ↔ p.2 = true)) ∧ ((c.ev ρ ≠ 0 ∧ (f fs').holds ρ Q) ∨ (c.ev ρ = 0 ∧ (g fs').holds ρ Q)) := by
  unfold split at h
  split at h
  · rename_i x hx
    have hs := E.neg?_spec (ρ := ρ) hx
    obtain ⟨fs', hf', h'⟩ := split1_holds hf h
    refine ⟨fs', hf', ?_⟩
    rcases h' with ⟨h1, h2⟩ | ⟨h1, h2⟩
    · exact .inr ⟨by
        by_cases hc : c.ev ρ = 0
        · exact hc
        · exact absurd (hs.1 hc) h1, h2⟩
    · exact .inl ⟨hs.2 h1, h2⟩
  · exact split1_holds hf h
end Go.Proofs.Ytocllfanlijmlaa.SX
