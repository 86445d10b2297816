/- Regions that draw their order. Of no program. -/
import Derived.Test.YthbfjnmdjehljaaDoorSxR
namespace Go.Proofs.YthbfjnmdjehljaaDoor.SX
open Go Go.RowKit
set_option linter.unusedVariables false
set_option linter.unusedSimpArgs false

/-- Boxes that may not be written while the region runs: those of 'keep'. -/
def freezeH (keep : List Nat) (hp : Hp) : Hp := ⟨hp.n, fun k => bif keep.contains k then ⟨false, (hp.box k).c⟩ else hp.box k⟩
def thaw (h0 h : Hp) : Hp := ⟨h.n, fun k => bif Nat.blt k h0.n then (bif (h0.box k).c.live then ⟨(h0.box k).rw, (h.box k).c⟩ else h.box k) else h.box k⟩
def visible (hp : Hp) : Hp := ⟨hp.n, fun k => bif (hp.box k).rw then ⟨true, .gone⟩ else hp.box k⟩
theorem freeze_get (keep : List Nat) (l : Hp) (k : Nat) : (freezeH keep l).at k = (l.at k).map fun b => if keep.contains k then ⟨false, b.c⟩ else b := by
  unfold Hp.at freezeH
  simp only [blt_iff]
  by_cases h : k < l.n
  · cases hk : keep.contains k <;> simp [h]
  · simp [h]
theorem freeze_length (keep : List Nat) (l : Hp) : (freezeH keep l).n = l.n := rfl
theorem thaw_length (l0 l : Hp) : (thaw l0 l).n = l.n := rfl
theorem thaw_get (l0 l : Hp) (k : Nat) : (thaw l0 l).at k = match l0.at k, l.at k with
    | some b0, some b => some (if b0.c.live then ⟨b0.rw, b.c⟩ else b)
    | none, x => x
    | _, none => none := by
  unfold Hp.at thaw
  simp only [blt_iff]
  by_cases h : k < l.n <;> by_cases h0 : k < l0.n
  · cases hl : (l0.box k).c.live <;> simp [h, h0, hl]
  · simp [h, h0]
  · simp [h, h0]
  · simp [h, h0]

section
variable {P : Program} {ρ : Env} {w0 : World} {M : Nat → Prop} {gl : Gl} {β : Bm} {w : World} {hp : Hp} {fs : Fs}

theorem freeze_c {keep : List Nat} {k : Nat} {b : Box} (h : (freezeH keep hp).at k = some b) : ∃ b', hp.at k = some b' ∧ b.c = b'.c ∧ (b.rw = true → b'.rw = true) := by
  rw [freeze_get] at h
  cases hk : hp.at k with
  | none => simp [hk] at h
  | some b' =>
    simp only [hk, Option.map_some, Option.some.injEq] at h
    refine ⟨b', rfl, ?_, ?_⟩
    · subst h; split <;> rfl
    · subst h; split
      · intro h; cases h
      · exact id
theorem Heap.freeze (h : Heap ρ w0 M β hp w) (keep : List Nat) : Heap ρ w0 M β (freezeH keep hp) w := by
  refine ⟨fun k b hk => ?_, fun j k b b' hj hk hb hb' e => ?_, fun k b hk hr hl => ?_, fun k b hk => ?_, h.kept, fun k b hk ha => ?_⟩
  · obtain ⟨x, hx, e, _⟩ := freeze_c hk
    rw [e]; exact h.lies k x hx
  · obtain ⟨x, hx, e1, _⟩ := freeze_c hj
    obtain ⟨y, hy, e2, _⟩ := freeze_c hk
    exact h.inj j k x y hx hy (e1 ▸ hb) (e2 ▸ hb') e
  · obtain ⟨x, hx, e, hr'⟩ := freeze_c hk
    exact h.mine k x hx (hr' hr) (e ▸ hl)
  · obtain ⟨x, hx, e, _⟩ := freeze_c hk
    rw [e, freeze_length]; exact h.good k x hx
  · obtain ⟨x, hx, e, _⟩ := freeze_c hk
    exact h.arrs k x hx (e ▸ ha)
theorem thaw_c {hp' : Hp} {k : Nat} {b : Box} (h : (thaw hp hp').at k = some b) : ∃ b', hp'.at k = some b' ∧ b.c = b'.c ∧ (b.rw = true → b'.rw = true ∨ ∃ b0, hp.at k = some b0 ∧ b0.c.live = true ∧ b0.rw = true) := by
  rw [thaw_get] at h
  cases h0 : hp.at k with
  | none => rw [h0] at h; exact ⟨b, h, rfl, fun h => .inl h⟩
  | some b0 =>
    cases h1 : hp'.at k with
    | none => rw [h0, h1] at h; cases h
    | some b1 =>
      rw [h0, h1] at h
      simp only [Option.some.injEq] at h
      refine ⟨b1, rfl, ?_, ?_⟩
      · subst h; split <;> rfl
      · subst h
        split
        · rename_i hl; exact fun hr => .inr ⟨b0, rfl, hl, hr⟩
        · exact fun hr => .inl hr
theorem Heap.thaw_ {hp' : Hp} {β' : Bm} {w' : World} (h0 : Heap ρ w0 M β hp w) (hx : Ext hp.n β β') (h : Heap ρ w0 M β' hp' w') : Heap ρ w0 M β' (thaw hp hp') w' := by
  refine ⟨fun k b hk => ?_, fun j k b b' hj hk hb hb' e => ?_, fun k b hk hr hl => ?_, fun k b hk => ?_, h.kept, fun k b hk ha => ?_⟩
  · obtain ⟨x, hx, e, _⟩ := thaw_c hk
    rw [e]; exact h.lies k x hx
  · obtain ⟨x, hx, e1, _⟩ := thaw_c hj
    obtain ⟨y, hy, e2, _⟩ := thaw_c hk
    exact h.inj j k x y hx hy (e1 ▸ hb) (e2 ▸ hb') e
  · obtain ⟨x, hx', e, hr'⟩ := thaw_c hk
    rcases hr' hr with h1 | ⟨b0, hb0, hl0, hr0⟩
    · exact h.mine k x hx' h1 (e ▸ hl)
    · rw [hx k (Hp.at_lt hb0)]
      exact h0.mine k b0 hb0 hr0 hl0
  · obtain ⟨x, hx, e, _⟩ := thaw_c hk
    rw [e, thaw_length]; exact h.good k x hx
  · obtain ⟨x, hx, e, _⟩ := thaw_c hk
    exact h.arrs k x hx (e ▸ ha)
theorem stay_thaw {keep : List Nat} {hp' : Hp} (h : Stay (freezeH keep hp) hp') : Stay hp (thaw hp hp') := fun k b hk hr => by
  have hf : (freezeH keep hp).at k = some b := by
    rw [freeze_get, hk]
    simp only [Option.map_some]
    split
    · obtain ⟨r, c⟩ := b; simp only at hr; subst hr; rfl
    · rfl
  have h' := h k b hf hr
  rw [thaw_get, hk, h']
  simp
/-- What stands in the boxes that are not written. -/
def Stands (ρ : Env) (β : Bm) (hpF : Hp) (w : World) : Prop := ∀ (k : Nat) (b : Box), hpF.at k = some b → b.rw = false → b.c.lies ρ β (β k) w
theorem Bx.lies_back {n : Nat} {β β' : Bm} (hx : Ext n β β') {bv : Nat × Nat} {w : World} : ∀ {b : Bx}, b.ok ρ n → b.lies ρ β' bv w → b.lies ρ β bv w
  | .cells c ty 0, hk, h => by simp only [Bx.lies] at *; rw [SV.evs_ext hx c hk] at h; exact h
  | .cells c ty (s + 1), hk, h => by simp only [Bx.lies] at *; rw [SV.evs_ext hx c hk] at h; exact h
  | .map es clock, hk, h => by
    simp only [Bx.lies] at *
    rw [h]
    congr 3
    exact List.map_congr_left fun e he => by
      have := hk e he
      simp only [entOf, SV.ev_ext hx _ this.1, SV.ev_ext hx _ this.2]
  | .ro c, hk, h => by simp only [Bx.lies] at *; rw [SV.evs_ext hx c hk] at h; exact h
  | .arr _ _ _, _, h => h
  | .gone, _, h => h
theorem Stands.of {hpF hp' : Hp} {β' : Bm} {w' : World} (hgood : ∀ (k : Nat) (b : Box), hpF.at k = some b → b.c.ok ρ hpF.n) (hx : Ext hpF.n β β') (hs : Stay hpF hp') (h : Heap ρ w0 M β' hp' w') : Stands ρ β hpF w' := fun k b hk hr => by
  have := h.lies k b (hs k b hk hr)
  rw [hx k (Hp.at_lt hk)] at this
  exact Bx.lies_back hx (hgood k b hk) this
theorem Stands.sees {hpF : Hp} {β' : Bm} {n : Nat} (hgood : ∀ (k : Nat) (b : Box), hpF.at k = some b → b.c.ok ρ hpF.n) (hx : Ext hpF.n β β') (hn : hpF.n ≤ n) (h : Stands ρ β hpF w) : Sees ρ β' n (visible hpF) w := by
  refine ⟨fun k b hk => ?_, fun k b hk => ?_⟩
  all_goals
    obtain ⟨hlt, hk⟩ := Hp.at_some.1 hk
    have hb : hpF.at k = some (hpF.box k) := Hp.at_some.2 ⟨hlt, rfl⟩
    unfold visible at hk
    simp only at hk
    generalize hpF.box k = b0 at hb hk
    · subst hk
      cases hr : b0.rw
      rotate_left
      · trivial
      · simp only [cond_false]
        first
          | (rw [hx k (Hp.at_lt hb)]; exact Bx.lies_ext hx (hgood k b0 hb) (h k b0 hb hr))
          | exact Bx.ok_mono hn (hgood k b0 hb)

def decideE (fs : Fs) (e : E) : Option Bool :=
  match e with
  | .lit n => some (n != 0)
  | e => match e.neg? with
    | some x => (knownC fs x).map fun b => !b
    | none => knownC fs e
theorem decideE_spec {e : E} {b : Bool} (hf : ∀ p ∈ fs, (p.1.ev ρ ≠ 0 ↔ p.2 = true)) (h : decideE fs e = some b) : decide (e.ev ρ ≠ 0) = b := by
  unfold decideE at h
  split at h
  · rename_i n
    obtain rfl := Option.some.inj h
    by_cases hn : n = 0 <;> simp [E.ev, hn]
  · split at h
    · rename_i x hx
      have h1 := E.neg?_spec (ρ := ρ) hx
      cases hk : knownC fs x with
      | none => simp [hk] at h
      | some c =>
        simp only [hk, Option.map_some, Option.some.injEq] at h
        have h2 := knownC_spec hf hk
        subst h
        by_cases hx0 : x.ev ρ = 0
        · have : c = false := by cases c; rfl; exact absurd hx0 (h2.2 rfl)
          subst this
          simpa using h1.2 hx0
        · have : c = true := h2.1 hx0
          subst this
          have : ¬ e.ev ρ ≠ 0 := fun h => hx0 (h1.1 h)
          simpa using this
    · have h2 := knownC_spec hf h
      by_cases he : e.ev ρ = 0
      · have : b = false := by cases b; rfl; exact absurd he (h2.2 rfl)
        subst this; simp [he]
      · have := h2.1 he
        subst this; simp [he]
/-- Is the operation wanted, as far as that is known? -/
def wants (ops : Array Oper) (st : St) (o : Oper) : Option Bool :=
  match guardS ops st o with
  | .yes => some true
  | .no => some false
  | .ask e want => (decideE st.facts e).map fun b => b == want
  | .lost => none
theorem wants_spec {ops : Array Oper} {st : St} {o : Oper} {a : Act} {b : Bool} (hst : Conc ρ w0 M gl β st a w) (h : wants ops st o = some b) : Region.wanted o (yielded ops a.tmps) = b := by
  unfold wants at h
  split at h
  · rename_i hg; obtain rfl := Option.some.inj h; exact guardS_yes hst hg
  · rename_i hg; obtain rfl := Option.some.inj h; exact guardS_no hst hg
  · rename_i e want hg
    cases hd : decideE st.facts e with
    | none => simp [hd] at h
    | some c =>
      simp only [hd, Option.map_some, Option.some.injEq] at h
      subst h
      rw [guardS_ask hst hg, decideE_spec hst.facts hd]
  · cases h
/-- An operation with its number, the numbers that it waits for, and those that must have come up before it may be taken first, as masks. -/
structure Oi where
  i : Nat
  o : Oper
  dep : Nat
  fr : Nat
def bitM (i : Nat) : Nat := 2 ^ i
def depM : List Edge → Nat
  | [] => 0
  | e :: l => if Region.binds .any e then bitM e.on ||| depM l else depM l
def waitsFor (i : Nat) : List Edge → Bool
  | [] => false
  | e :: l => (Region.binds .any e && e.on == i) || waitsFor i l
def frM (ops : Array Oper) (i : Nat) (oi : Oper) : Nat → List Oper → Nat
  | _, [] => 0
  | j, oj :: l => if j == i || waitsFor i oj.after.toList || oi.apart ops oj then frM ops i oi (j + 1) l else bitM j ||| frM ops i oi (j + 1) l
def infosFrom (ops : Array Oper) : Nat → List Oper → List Oi
  | _, [] => []
  | i, o :: l => ⟨i, o, depM o.after.toList, frM ops i o 0 ops.toList⟩ :: infosFrom ops (i + 1) l
def isIn (m d : Nat) : Bool := m &&& d == m
theorem testBit_bitM (i j : Nat) : (bitM i).testBit j = decide (i = j) := by unfold bitM; rw [Nat.testBit_two_pow]
theorem isIn_spec {m d : Nat} (h : isIn m d = true) (j : Nat) (hj : m.testBit j = true) : d.testBit j = true := by
  unfold isIn at h
  have : m &&& d = m := by simpa using h
  rw [← this, Nat.testBit_and] at hj
  simp only [Bool.and_eq_true] at hj
  exact hj.2
theorem isIn_of {m d : Nat} (h : ∀ j, m.testBit j = true → d.testBit j = true) : isIn m d = true := by
  unfold isIn
  have : m &&& d = m := by
    apply Nat.eq_of_testBit_eq
    intro j
    rw [Nat.testBit_and]
    cases hj : m.testBit j
    · rfl
    · simp [h j hj]
  simpa using this
theorem depM_spec : ∀ {l : List Edge} {j : Nat}, (depM l).testBit j = true ↔ ∃ e ∈ l, Region.binds .any e = true ∧ e.on = j
  | [], j => by simp [depM]
  | e :: l, j => by
    unfold depM
    split
    · rename_i hb
      rw [Nat.testBit_or, Bool.or_eq_true, testBit_bitM, decide_eq_true_eq, depM_spec]
      constructor
      · rintro (h | ⟨x, hx, h⟩)
        · exact ⟨e, List.mem_cons_self .., hb, h⟩
        · exact ⟨x, List.mem_cons_of_mem _ hx, h⟩
      · rintro ⟨x, hx, hxb, h⟩
        rcases List.mem_cons.1 hx with rfl | hx
        · exact .inl h
        · exact .inr ⟨x, hx, hxb, h⟩
    · rename_i hb
      rw [depM_spec]
      constructor
      · rintro ⟨x, hx, h⟩; exact ⟨x, List.mem_cons_of_mem _ hx, h⟩
      · rintro ⟨x, hx, hxb, h⟩
        rcases List.mem_cons.1 hx with rfl | hx
        · exact absurd hxb hb
        · exact ⟨x, hx, hxb, h⟩
theorem waitsFor_spec {i : Nat} : ∀ {l : List Edge}, waitsFor i l = true → ∃ e ∈ l, (Region.binds .any e && e.on == i) = true
  | [], h => by cases h
  | e :: l, h => by
    unfold waitsFor at h
    rw [Bool.or_eq_true] at h
    rcases h with h | h
    · exact ⟨e, List.mem_cons_self .., h⟩
    · obtain ⟨x, hx, h⟩ := waitsFor_spec h; exact ⟨x, List.mem_cons_of_mem _ hx, h⟩
theorem frM_spec {ops : Array Oper} {i : Nat} {oi : Oper} : ∀ {l : List Oper} {j0 j : Nat} {oj : Oper}, l[j]? = some oj → (frM ops i oi j0 l).testBit (j0 + j) = false → j0 + j = i ∨ waitsFor i oj.after.toList = true ∨ oi.apart ops oj = true
  | [], j0, j, oj, h, _ => by simp at h
  | o :: l, j0, 0, oj, h, hb => by
    obtain rfl : o = oj := by simpa using h
    unfold frM at hb
    split at hb
    · rename_i hc
      simp only [Bool.or_eq_true, beq_iff_eq] at hc
      rcases hc with (hc | hc) | hc
      · exact .inl (by simpa using hc)
      · exact .inr (.inl hc)
      · exact .inr (.inr hc)
    · rw [Nat.testBit_or, testBit_bitM] at hb
      simp at hb
  | o :: l, j0, j + 1, oj, h, hb => by
    have h' : l[j]? = some oj := by simpa using h
    have e : j0 + (j + 1) = (j0 + 1) + j := by omega
    rw [e] at hb ⊢
    unfold frM at hb
    split at hb
    · exact frM_spec h' hb
    · rw [Nat.testBit_or, Bool.or_eq_false_iff] at hb
      exact frM_spec h' hb.2
theorem infosFrom_mem {ops : Array Oper} : ∀ {l : List Oper} {i0 i : Nat} {o : Oper}, l[i]? = some o → ⟨i0 + i, o, depM o.after.toList, frM ops (i0 + i) o 0 ops.toList⟩ ∈ infosFrom ops i0 l
  | [], _, _, _, h => by simp at h
  | x :: l, i0, 0, o, h => by
    obtain rfl : x = o := by simpa using h
    exact List.mem_cons_self ..
  | x :: l, i0, i + 1, o, h => by
    have := infosFrom_mem (ops := ops) (i0 := i0 + 1) (show l[i]? = some o by simpa using h)
    rw [show i0 + 1 + i = i0 + (i + 1) by omega] at this
    exact List.mem_cons_of_mem _ this
theorem infosFrom_of {ops : Array Oper} : ∀ {l : List Oper} {i0 : Nat} {x : Oi}, x ∈ infosFrom ops i0 l → ∃ i o, l[i]? = some o ∧ x = ⟨i0 + i, o, depM o.after.toList, frM ops (i0 + i) o 0 ops.toList⟩
  | [], _, _, h => by cases h
  | o :: l, i0, x, h => by
    rcases List.mem_cons.1 h with rfl | h
    · exact ⟨0, o, rfl, rfl⟩
    · obtain ⟨i, o', h1, h2⟩ := infosFrom_of h
      exact ⟨i + 1, o', by simpa using h1, by rw [h2]; simp only [show i0 + 1 + i = i0 + (i + 1) by omega]⟩

/-- The tests that the guards of operations wait for. -/
def asks (ops : Array Oper) (st : St) : List Oi → List E
  | [] => []
  | x :: l => match guardS ops st x.o with
    | .ask e _ => match decideE st.facts e with
      | none => e :: asks ops st l
      | some _ => asks ops st l
    | _ => asks ops st l
def resolveE {α : Type} : List E → Fs → (Fs → T α) → T α
  | [], fs, f => f fs
  | e :: l, fs, f => split fs e (fun fs => resolveE l fs f) (fun fs => resolveE l fs f)
theorem resolveE_holds {α : Type} {f : Fs → T α} {Q : α → Prop} : ∀ {l : List E} {fs : Fs}, (∀ p ∈ fs, (p.1.ev ρ ≠ 0 ↔ p.2 = true)) → (resolveE l fs f).holds ρ Q → ∃ fs', (∀ p ∈ fs', (p.1.ev ρ ≠ 0 ↔ p.2 = true)) ∧ (f fs').holds ρ Q
  | [], fs, hf, h => ⟨fs, hf, h⟩
  | e :: l, fs, hf, h => by
    obtain ⟨fs', hf', h'⟩ := split_holds hf h
    rcases h' with ⟨_, h'⟩ | ⟨_, h'⟩ <;> exact resolveE_holds hf' h'
/-- What an operation yields if it may be taken first. -/
def yieldM (P : Program) (gl : Gl) (vis : Hp) (ops : Array Oper) (done : Nat) (st : St) (x : Oi) : Option SV :=
  if isIn x.dep done then
    match wants ops st x.o with
    | some false => if isIn x.fr done then some undefS else none
    | some true => if isIn x.fr done then pureS' P st.facts vis (st.get gl) x.o else none
    | none => none
  else none
/-- The first that can be taken first, what it yields, and the others. -/
def pickM (P : Program) (gl : Gl) (vis : Hp) (ops : Array Oper) (done : Nat) (st : St) : List Oi → Option (Oi × SV × List Oi)
  | [] => none
  | x :: l => match yieldM P gl vis ops done st x with
    | some r => some (x, r, l)
    | none => match pickM P gl vis ops done st l with
      | some (y, r, l') => some (y, r, x :: l')
      | none => none
/-- Those that may come up, each with the others. -/
def readyM (done : Nat) : List Oi → List (Oi × List Oi)
  | [] => []
  | x :: l => if isIn x.dep done then (x, l) :: (readyM done l).map fun p => (p.1, x :: p.2) else (readyM done l).map fun p => (p.1, x :: p.2)
def allT {α β : Type} (f : β → T α) : List β → T α
  | [] => .bad 131
  | [i] => f i
  | i :: l => .both (f i) (allT f l)
theorem allT_holds {α β : Type} {f : β → T α} {Q : α → Prop} : ∀ {l : List β}, (allT f l).holds ρ Q → ∀ i ∈ l, (f i).holds ρ Q
  | [], h, i, hi => by cases hi
  | [j], h, i, hi => by
    obtain rfl : i = j := by simpa using hi
    exact h
  | j :: k :: l, h, i, hi => by
    rcases List.mem_cons.1 hi with rfl | hi
    · exact h.1
    · exact allT_holds h.2 i hi

/-- Operations in whatever order. -/
def anyOps (P : Program) (gl : Gl) (call : Caller) (vis : Hp) (ops : Array Oper) : Nat → List Oi → Nat → St → T St
  | _, [], _, st => .ok st
  | 0, _, _, _ => .bad 130
  | n + 1, todo, done, st =>
    match pickM P gl vis ops done st todo with
    | some (x, r, l) => anyOps P gl call vis ops n l (done ||| bitM x.i) (st.put x.o.dst r)
    | none =>
      let rs := readyM done todo
      resolveE (asks ops st (rs.map (·.1))) st.facts fun fs =>
        match pickM P gl vis ops done { st with facts := fs } todo with
        | some (x, r, l) => anyOps P gl call vis ops n l (done ||| bitM x.i) ({ st with facts := fs }.put x.o.dst r)
        | none => allT (fun p => (runOp P gl call ops p.1.o { st with facts := fs }).bind (anyOps P gl call vis ops n p.2 (done ||| bitM p.1.i))) rs

/-- 'todo' are the operations that have not come up, 'done' the others' mask. -/
structure Left (ops : Array Oper) (listed : Array Bool) (todo : List Oi) (done : Nat) : Prop where
  mask : ∀ j, done.testBit j = listed.getD j false
  size : listed.size = ops.size
  all : ∀ i o, ops[i]? = some o → listed.getD i true = false → ⟨i, o, depM o.after.toList, frM ops i o 0 ops.toList⟩ ∈ todo
  only : ∀ x ∈ todo, ∃ o, ops[x.i]? = some o ∧ listed.getD x.i true = false ∧ x = ⟨x.i, o, depM o.after.toList, frM ops x.i o 0 ops.toList⟩
theorem Left.next {ops : Array Oper} {listed : Array Bool} {todo l : List Oi} {done : Nat} (h : Left ops listed todo done) {x : Oi} (hx : x ∈ todo) (hsub : ∀ y ∈ l, y ∈ todo ∧ y.i ≠ x.i) (hall : ∀ y ∈ todo, y.i ≠ x.i → y ∈ l) :
    Left ops (listed.setIfInBounds x.i true) l (done ||| bitM x.i) := by
  obtain ⟨o, ho, hlx, _⟩ := h.only x hx
  have hlt : x.i < listed.size := by rw [h.size]; exact (Array.getElem?_eq_some_iff.1 ho).1
  refine ⟨fun j => ?_, by simpa using h.size, fun i oi hi hli => ?_, fun y hy => ?_⟩
  · rw [Nat.testBit_or, h.mask, testBit_bitM]
    by_cases hj : x.i = j
    · subst hj; simp [hlt]
    · rw [getD_set_ne false hj]; simp [hj]
  · by_cases hj : x.i = i
    · subst hj; simp [hlt] at hli
    · rw [getD_set_ne true hj] at hli
      exact hall _ (h.all i oi hi hli) (fun e => hj e.symm)
  · obtain ⟨hy1, hy2⟩ := hsub y hy
    obtain ⟨oy, h1, h2, h3⟩ := h.only y hy1
    exact ⟨oy, h1, by rw [getD_set_ne true (Ne.symm hy2)]; exact h2, h3⟩
theorem Left.distinct_sub {ops : Array Oper} {listed : Array Bool} {todo : List Oi} {done : Nat} (h : Left ops listed todo done) {x y : Oi} (hx : x ∈ todo) (hy : y ∈ todo) (he : x.i = y.i) : x = y := by
  obtain ⟨o, h1, _, h3⟩ := h.only x hx
  obtain ⟨o', h1', _, h3'⟩ := h.only y hy
  rw [he] at h1
  rw [h1] at h1'
  obtain rfl := Option.some.inj h1'
  rw [h3, h3', he]
/-- The numbers in a list differ. -/
def Nd : List Oi → Prop
  | [] => True
  | x :: l => (∀ y ∈ l, y.i ≠ x.i) ∧ Nd l
theorem pickM_spec {vis : Hp} {ops : Array Oper} {done : Nat} {st : St} : ∀ {todo : List Oi} {x : Oi} {r : SV} {l : List Oi}, pickM P gl vis ops done st todo = some (x, r, l) → Nd todo →
    x ∈ todo ∧ yieldM P gl vis ops done st x = some r ∧ (∀ y ∈ l, y ∈ todo ∧ y.i ≠ x.i) ∧ (∀ y ∈ todo, y.i ≠ x.i → y ∈ l) ∧ Nd l
  | [], _, _, _, h, _ => by cases h
  | z :: todo, x, r, l, h, hd => by
    unfold pickM at h
    split at h
    · rename_i q hq
      simp only [Option.some.injEq, Prod.mk.injEq] at h
      obtain ⟨rfl, rfl, rfl⟩ := h
      exact ⟨List.mem_cons_self .., hq, fun y hy => ⟨List.mem_cons_of_mem _ hy, hd.1 y hy⟩, fun y hy hne => (List.mem_cons.1 hy).resolve_left (fun e => hne (by rw [e])), hd.2⟩
    · split at h
      · rename_i y r' l' hp
        simp only [Option.some.injEq, Prod.mk.injEq] at h
        obtain ⟨rfl, rfl, rfl⟩ := h
        obtain ⟨p1, p2, p3, p4, p5⟩ := pickM_spec hp hd.2
        refine ⟨List.mem_cons_of_mem _ p1, p2, fun u hu => ?_, fun u hu hne => ?_, ⟨fun u hu => hd.1 u (p3 u hu).1, p5⟩⟩
        · rcases List.mem_cons.1 hu with rfl | hu
          · exact ⟨List.mem_cons_self .., fun e => hd.1 _ p1 e.symm⟩
          · exact ⟨List.mem_cons_of_mem _ (p3 u hu).1, (p3 u hu).2⟩
        · rcases List.mem_cons.1 hu with rfl | hu
          · exact List.mem_cons_self ..
          · exact List.mem_cons_of_mem _ (p4 u hu hne)
      · cases h
theorem readyM_spec {done : Nat} : ∀ {todo : List Oi} {p : Oi × List Oi}, p ∈ readyM done todo → Nd todo →
    p.1 ∈ todo ∧ isIn p.1.dep done = true ∧ (∀ y ∈ p.2, y ∈ todo ∧ y.i ≠ p.1.i) ∧ (∀ y ∈ todo, y.i ≠ p.1.i → y ∈ p.2) ∧ Nd p.2
  | [], p, h, _ => by cases h
  | z :: todo, p, h, hd => by
    have tail : ∀ q ∈ (readyM done todo).map fun p : Oi × List Oi => (p.1, z :: p.2), q.1 ∈ z :: todo ∧ isIn q.1.dep done = true ∧ (∀ y ∈ q.2, y ∈ z :: todo ∧ y.i ≠ q.1.i) ∧ (∀ y ∈ z :: todo, y.i ≠ q.1.i → y ∈ q.2) ∧ Nd q.2 := fun q hq => by
      obtain ⟨u, hu, rfl⟩ := List.mem_map.1 hq
      obtain ⟨p1, p2, p3, p4, p5⟩ := readyM_spec hu hd.2
      refine ⟨List.mem_cons_of_mem _ p1, p2, fun v hv => ?_, fun v hv hne => ?_, ⟨fun v hv => hd.1 v (p3 v hv).1, p5⟩⟩
      · rcases List.mem_cons.1 hv with rfl | hv
        · exact ⟨List.mem_cons_self .., fun e => hd.1 _ p1 e.symm⟩
        · exact ⟨List.mem_cons_of_mem _ (p3 v hv).1, (p3 v hv).2⟩
      · rcases List.mem_cons.1 hv with rfl | hv
        · exact List.mem_cons_self ..
        · exact List.mem_cons_of_mem _ (p4 v hv hne)
    unfold readyM at h
    split at h
    · rename_i hr
      rcases List.mem_cons.1 h with rfl | h
      · exact ⟨List.mem_cons_self .., hr, fun y hy => ⟨List.mem_cons_of_mem _ hy, hd.1 y hy⟩, fun y hy hne => (List.mem_cons.1 hy).resolve_left (fun e => hne (by rw [e])), hd.2⟩
      · exact tail p h
    · exact tail p h
theorem readyM_all {done : Nat} : ∀ {todo : List Oi} {x : Oi}, x ∈ todo → isIn x.dep done = true → ∃ p ∈ readyM done todo, p.1 = x
  | [], x, h, _ => by cases h
  | z :: todo, x, h, hr => by
    unfold readyM
    rcases List.mem_cons.1 h with rfl | h
    · rw [if_pos hr]; exact ⟨(_, _), List.mem_cons_self .., rfl⟩
    · obtain ⟨p, hp, rfl⟩ := readyM_all h hr
      have hm : (p.1, z :: p.2) ∈ (readyM done todo).map fun p : Oi × List Oi => (p.1, z :: p.2) := List.mem_map.2 ⟨p, hp, rfl⟩
      split
      · exact ⟨_, List.mem_cons_of_mem _ hm, rfl⟩
      · exact ⟨_, hm, rfl⟩
theorem Left.ready_in {ops : Array Oper} {listed : Array Bool} {todo : List Oi} {done : Nat} (h : Left ops listed todo done) {i : Nat} (hi : i ∈ Region.ready .any ops listed) : ∃ x ∈ todo, x.i = i ∧ isIn x.dep done = true := by
  obtain ⟨h1, o, ho, hall⟩ := mem_ready.1 hi
  refine ⟨_, h.all i o ho h1, rfl, isIn_of fun j hj => ?_⟩
  obtain ⟨e, he, hb, rfl⟩ := depM_spec.1 hj
  rw [h.mask]
  exact hall e (by simpa using he) hb
theorem Left.in_ready {ops : Array Oper} {listed : Array Bool} {todo : List Oi} {done : Nat} (h : Left ops listed todo done) {x : Oi} (hx : x ∈ todo) (hd : isIn x.dep done = true) : x.i ∈ Region.ready .any ops listed := by
  obtain ⟨o, ho, hl, he⟩ := h.only x hx
  rw [he] at hd
  refine mem_ready.2 ⟨hl, o, ho, fun e hem hb => ?_⟩
  rw [← h.mask]
  exact isIn_spec hd _ (depM_spec.2 ⟨e, by simpa using hem, hb, rfl⟩)
theorem Left.free {ops : Array Oper} {listed : Array Bool} {todo : List Oi} {done : Nat} (h : Left ops listed todo done) {x : Oi} (hx : x ∈ todo) (hf : isIn x.fr done = true) : Region.free .any ops listed x.i = true := by
  obtain ⟨o, ho, hl, he⟩ := h.only x hx
  rw [he] at hf
  unfold Region.free
  rw [ho]
  simp only [List.all_eq_true, List.mem_range, Bool.or_eq_true, beq_iff_eq]
  intro j hj
  have hoj : ops[j]? = some ops[j] := Array.getElem?_eq_getElem hj
  by_cases hb : (frM ops x.i o 0 ops.toList).testBit j = true
  · have := isIn_spec hf j hb
    rw [h.mask] at this
    refine .inl (.inr ?_)
    have hjl : j < listed.size := by rw [h.size]; exact hj
    simp [hjl] at this ⊢
    exact this
  · have := frM_spec (ops := ops) (i := x.i) (oi := o) (l := ops.toList) (j0 := 0) (j := j) (oj := ops[j]) (by simp) (by simpa using hb)
    rcases this with h1 | h1 | h1
    · exact .inl (.inl (by omega))
    · refine .inr ?_
      rw [hoj]
      simp only [Bool.or_eq_true]
      obtain ⟨e, he1, he2⟩ := waitsFor_spec h1
      exact .inl (Array.any_eq_true'.2 ⟨e, by simpa using he1, he2⟩)
    · refine .inr ?_
      rw [hoj]
      simp only [Bool.or_eq_true]
      exact .inr h1
theorem nd_infos {ops : Array Oper} : ∀ {l : List Oper} {i : Nat}, Nd (infosFrom ops i l)
  | [], _ => trivial
  | o :: l, i => ⟨fun y hy => by
      obtain ⟨k, o', _, rfl⟩ := infosFrom_of hy
      simp only
      omega, nd_infos⟩
theorem left_start (ops : Array Oper) : Left ops (Array.replicate ops.size false) (infosFrom ops 0 ops.toList) 0 := by
  refine ⟨fun j => ?_, by simp, fun i o ho _ => ?_, fun x hx => ?_⟩
  · by_cases hj : j < ops.size <;> simp [hj]
  · have := infosFrom_mem (ops := ops) (i0 := 0) (show ops.toList[i]? = some o by simpa using ho)
    simpa using this
  · obtain ⟨i, o, h1, rfl⟩ := infosFrom_of hx
    have hi : i < ops.size := by have := (List.getElem?_eq_some_iff.1 h1).1; simpa using this
    simp only [Nat.zero_add]
    exact ⟨o, (by simpa using h1), (by simp [hi]), rfl⟩

theorem anyOps_run {call : Caller} (hc : CallOk P ρ w0 M gl call) {ops : Array Oper} {Q : Exit → Act → World → Prop} {hpF : Hp} {β0 : Bm} (hsel : Region.noSelect ops = true)
    (hgood : ∀ (k : Nat) (b : Box), hpF.at k = some b → b.c.ok ρ hpF.n) (hQ : ∀ c d v a w, Q (.panic c) (Act.put a d v) w → Q (.panic c) a w) :
    ∀ (n : Nat) (listed : Array Bool) (todo : List Oi) (done : Nat) (β : Bm) (st : St) (a : Act) (w : World), Left ops listed todo done → Nd todo → Conc ρ w0 M gl β st a w → Ext hpF.n β0 β → hpF.n ≤ st.hp.n → Stay hpF st.hp →
      ((anyOps P gl call (visible hpF) ops n todo done st).holds ρ fun st' => Later ρ w0 M gl β st.hp st' (Q .normal)) → wpAnyH P .any ops Q (Stands ρ β0 hpF) n listed a w
  | n, listed, [], done, β, st, a, w, hL, hN, hst, hx, hl, hs, h => by
    have h' : Later ρ w0 M gl β st.hp st (Q .normal) := by cases n <;> exact h
    refine wpAnyH_done ?_ (h' β a w (Ext.refl _ _) (Nat.le_refl _) (Stay.refl _) hst) _
    cases hr : Region.ready .any ops listed with
    | nil => rfl
    | cons i l =>
      obtain ⟨x, hx, _⟩ := hL.ready_in (i := i) (by rw [hr]; exact List.mem_cons_self ..)
      cases hx
  | 0, listed, x :: todo, done, β, st, a, w, hL, hN, hst, hx, hl, hs, h => h.elim
  | n + 1, listed, y :: ys, done, β, st, a, w, hL, hN, hst, hx, hl, hs, h => by
    generalize htd : y :: ys = todo at *
    have hSw : Stands ρ β0 hpF w := Stands.of hgood hx hs hst.heap
    have step : ∀ (p : Oi × List Oi) (fs : Fs), p ∈ readyM done todo → Conc ρ w0 M gl β { st with facts := fs } a w →
        (((runOp P gl call ops p.1.o { st with facts := fs }).bind (anyOps P gl call (visible hpF) ops n p.2 (done ||| bitM p.1.i))).holds ρ fun st' => Later ρ w0 M gl β st.hp st' (Q .normal)) →
        wpOp P ops Q p.1.i (fun a' w' => Stands ρ β0 hpF w' ∧ wpAnyH P .any ops Q (Stands ρ β0 hpF) n (listed.setIfInBounds p.1.i true) a' w') a w := fun p fs hp hst' h' => by
      obtain ⟨p1, p2, p3, p4, p5⟩ := readyM_spec hp hN
      obtain ⟨o, ho, _, he⟩ := hL.only p.1 p1
      have hoo : p.1.o = o := by rw [he]
      rw [hoo, T.holds_bind] at h'
      have key : ∀ st1, ((anyOps P gl call (visible hpF) ops n p.2 (done ||| bitM p.1.i) st1).holds ρ fun st' => Later ρ w0 M gl β st.hp st' (Q .normal)) →
          Later ρ w0 M gl β st.hp st1 (fun a' w' => Stands ρ β0 hpF w' ∧ wpAnyH P .any ops Q (Stands ρ β0 hpF) n (listed.setIfInBounds p.1.i true) a' w') :=
        fun st1 h1 β' a' w' hx' hl' hs' hst1 => by
          have hx2 : Ext hpF.n β0 β' := hx.trans hx' hl
          have hs2 := hs.trans hs'
          refine ⟨Stands.of hgood hx2 hs2 hst1.heap, ?_⟩
          exact anyOps_run hc hsel hgood hQ n _ p.2 _ β' st1 a' w' (hL.next p1 p3 p4) p5 hst1 hx2 (Nat.le_trans hl hl') hs2 (T.holds_mono (fun st'' h'' => h''.trans hx' hl' hs') h1)
      unfold wpOp
      simp only [ho]
      rcases runOp_run hc hst' Q (T.holds_mono key h') with ⟨h1, h2⟩ | ⟨h1, h2⟩
      · simp only [h1, if_true]; exact .inl h2
      · simp only [h1, Bool.false_eq_true, if_false]; exact h2
    have take : ∀ (fs : Fs) (x : Oi) (r : SV) (l : List Oi), pickM P gl (visible hpF) ops done { st with facts := fs } todo = some (x, r, l) → Conc ρ w0 M gl β { st with facts := fs } a w →
        ((anyOps P gl call (visible hpF) ops n l (done ||| bitM x.i) ({ st with facts := fs }.put x.o.dst r)).holds ρ fun st' => Later ρ w0 M gl β st.hp st' (Q .normal)) → wpAnyH P .any ops Q (Stands ρ β0 hpF) (n + 1) listed a w := fun fs x r l hp hst' h' => by
      obtain ⟨p1, p2, p3, p4, p5⟩ := pickM_spec hp hN
      obtain ⟨o, ho, _, he⟩ := hL.only x p1
      have hoo : x.o = o := by rw [he]
      have hy : isIn x.dep done = true ∧ isIn x.fr done = true ∧ YieldsIf P ops (Stands ρ β0 hpF) o (r.ev ρ β) a ∧ r.ok ρ st.hp.n := by
        unfold yieldM at p2
        rw [hoo] at p2
        split at p2
        · rename_i hd
          split at p2
          · rename_i hw
            split at p2
            · rename_i hf
              obtain rfl := Option.some.inj p2
              exact ⟨hd, hf, .inr ⟨wants_spec hst' hw, rfl⟩, trivial⟩
            · cases p2
          · rename_i hw
            split at p2
            · rename_i hf
              exact ⟨hd, hf, .inl ⟨wants_spec hst' hw, fun w' hw' => (pureS'_run hst'.get_ev hst'.get_ok (Stands.sees hgood hx hl hw') hst'.facts p2).1⟩, (pureS'_run hst'.get_ev hst'.get_ok (Stands.sees hgood hx hl hSw) hst'.facts p2).2⟩
            · cases p2
          · cases p2
        · cases p2
      obtain ⟨y1, y2, y3, y4⟩ := hy
      rw [hoo] at h'
      refine wpAnyH_take ho hsel (hL.free p1 y2) (by simpa using hL.in_ready p1 y1) (fun c a w hq => hQ c _ _ a w hq) y3 hSw ?_
      refine anyOps_run hc hsel hgood hQ n _ l _ β _ _ w (hL.next p1 p3 p4) p5 (hst'.put y4 o.dst) hx (by rw [St.put_hp]; exact hl) (by rw [St.put_hp]; exact hs) (T.holds_mono (fun st'' h'' => ?_) h')
      rw [St.put_hp]
      exact h''
    have h' : (match pickM P gl (visible hpF) ops done st todo with
      | some (x, r, l) => anyOps P gl call (visible hpF) ops n l (done ||| bitM x.i) (st.put x.o.dst r)
      | none => resolveE (asks ops st ((readyM done todo).map fun p : Oi × List Oi => p.1)) st.facts fun fs =>
        match pickM P gl (visible hpF) ops done { st with facts := fs } todo with
        | some (x, r, l) => anyOps P gl call (visible hpF) ops n l (done ||| bitM x.i) ({ st with facts := fs }.put x.o.dst r)
        | none => allT (fun p : Oi × List Oi => (runOp P gl call ops p.1.o { st with facts := fs }).bind (anyOps P gl call (visible hpF) ops n p.2 (done ||| bitM p.1.i))) (readyM done todo)).holds ρ fun st' => Later ρ w0 M gl β st.hp st' (Q .normal) := by
      rw [← htd] at h ⊢
      exact h
    clear h
    split at h'
    · rename_i x r l hp
      exact take st.facts x r l hp hst h'
    · obtain ⟨fs', hf', h2⟩ := resolveE_holds hst.facts h'
      have hst' := hst.facts_to hf'
      split at h2
      · rename_i x r l hp
        exact take fs' x r l hp hst' h2
      · have hall := allT_holds h2
        cases hr : Region.ready .any ops listed with
        | nil =>
          exfalso
          cases hrm : readyM done todo with
          | nil => rw [hrm] at h2; exact h2
          | cons p l =>
            have hp : p ∈ readyM done todo := by rw [hrm]; exact List.mem_cons_self ..
            obtain ⟨p1, p2, _⟩ := readyM_spec hp hN
            have := hL.in_ready p1 p2
            rw [hr] at this
            cases this
        | cons i0 l0 =>
          refine wpAnyH_all hr (by simp) fun j hj => ?_
          rw [← hr] at hj
          obtain ⟨x, hx1, rfl, hx2⟩ := hL.ready_in hj
          obtain ⟨p, hp, rfl⟩ := readyM_all hx1 hx2
          exact step p fs' hp hst' (hall p hp)

/-- Where the addresses of a region's operations come from: slots that are copies or parts of others' addresses. -/
def srcOf (t : Nat) : List Oper → Option (Option Nat)
  | [] => none
  | o :: l => if o.dst = some t then some (match o.op with
      | .move (.tmp u) | .assign (.tmp u) | .nilCheck (.tmp u) | .fieldAddr _ (.tmp u) _ | .indexAddr _ (.tmp u) _ => some u
      | _ => none) else srcOf t l
def rootOf (l : List Oper) : Nat → Nat → Option Nat
  | 0, _ => none
  | n + 1, t => match srcOf t l with
    | none => some t
    | some (some u) => rootOf l n u
    | some none => none
def loadRoots (all : List Oper) : List Oper → List Nat
  | [] => []
  | o :: l => match o.op with
    | .load _ (.tmp t) => match rootOf all 6 t with
      | some r => r :: loadRoots all l
      | none => loadRoots all l
    | _ => loadRoots all l
def storeRoots (all : List Oper) : List Oper → List Nat
  | [] => []
  | o :: l => match o.op with
    | .store _ (.tmp t) _ => match rootOf all 6 t with
      | some r => r :: storeRoots all l
      | none => storeRoots all l
    | _ => storeRoots all l
def boxesOf (st : St) : List Nat → List Nat
  | [] => []
  | t :: l => match st.tmp? t with
    | some (.ptr b _) => b :: boxesOf st l
    | some (.slice b _ _ _) => b :: boxesOf st l
    | _ => boxesOf st l
/-- The boxes that the region loads from and does not store into itself; 'keep': slots whose boxes its calls write. -/
def frozenIn (ops : Array Oper) (keep : List Nat) (st : St) : List Nat :=
  let w := boxesOf st (storeRoots ops.toList ops.toList ++ keep)
  (boxesOf st (loadRoots ops.toList ops.toList)).filter fun b => !w.contains b
/-- A region that draws its order; boxes to which the slots of 'keep' point may be written in it. -/
def anyRegion (P : Program) (gl : Gl) (call : Caller) (keep : List Nat) (ops : Array Oper) (st : St) : T St :=
  if Region.noSelect ops then
    let hpF := freezeH (frozenIn ops keep st) st.hp
    (anyOps P gl call (visible hpF) ops ops.size (infosFrom ops 0 ops.toList) 0 { st with hp := hpF }).bind fun st' => .ok { st' with hp := thaw st.hp st'.hp }
  else .bad 134
theorem anyRegion_run {call : Caller} (hc : CallOk P ρ w0 M gl call) (hm : P.follows .mixedOrders = true) {id : Nat} {keep : List Nat} {ops : Array Oper} {Q : Exit → Act → World → Prop} {st : St} {a : Act} (hst : Conc ρ w0 M gl β st a w)
    (h : (anyRegion P gl call keep ops st).holds ρ fun st' => Later ρ w0 M gl β st.hp st' (Q .normal)) : (Code.region id ops true).wp P Q a w := by
  unfold anyRegion at h
  split at h
  · rename_i hsel
    simp only at h
    generalize hk : frozenIn ops keep st = kk at h
    rw [T.holds_bind] at h
    have hF := hst.heap.freeze kk
    have hw1 : Below w.heap.size w { w with drawn := w.drawn + 1 } := (Below.refl _ _).drew
    have hst1 : Conc ρ w0 M gl β { st with hp := freezeH kk st.hp } a { w with drawn := w.drawn + 1 } :=
      ⟨hst.size, hst.tmps, hst.defers, hst.good, hF.below hw1, hst.facts, by rw [freeze_length]; exact hst.gl⟩
    refine Code.wp_mono (Q := fun e a w => match e with | .normal => Q .normal a w | _ => False) (fun e a w he => ?_) ?_
    · cases e <;> first | exact he | exact he.elim
    refine wp_region_held (S := Stands ρ β (freezeH kk st.hp)) hm ?_
    refine anyOps_run hc hsel (fun k b hb => hF.good k b hb) (fun _ _ _ _ _ h => h) _ _ _ _ β _ a _ (left_start ops) nd_infos hst1 (Ext.refl _ _) (Nat.le_refl _) (Stay.refl _) ?_
    refine T.holds_mono (fun st' h' => ?_) h
    intro β' a' w' hx hl hs hc'
    have hx' : Ext st.hp.n β β' := by have := hx; rwa [freeze_length] at this
    have hl' : st.hp.n ≤ st'.hp.n := by have := hl; rwa [freeze_length] at this
    refine h' β' a' w' hx' (by simp only; rw [thaw_length]; exact hl') (stay_thaw hs) ?_
    exact ⟨hc'.size, hc'.tmps, hc'.defers, hc'.good, hst.heap.thaw_ hx' hc'.heap, hc'.facts, by simp only; rw [thaw_length]; exact hc'.gl⟩
  · exact h.elim
end
/-! ### Orders that come to the same -/
def rawBeq : Value → Value → Bool
  | .slice none a b, .slice none c d => a == c && b == d
  | .pointer none, .pointer none => true
  | .tuple xs, .tuple ys => xs.size == 0 && ys.size == 0
  | _, _ => false
theorem rawBeq_eq : ∀ {a b : Value}, rawBeq a b = true → a = b := by
  intro a b h
  unfold rawBeq at h
  split at h
  · simp only [Bool.and_eq_true, beq_iff_eq] at h; rw [h.1, h.2]
  · rfl
  · simp only [Bool.and_eq_true, beq_iff_eq] at h
    rename_i xs ys
    rw [Array.eq_empty_of_size_eq_zero h.1, Array.eq_empty_of_size_eq_zero h.2]
  · cases h
mutual
def SV.beq : SV → SV → Bool
  | .int k e, .int j f => kTag k == kTag j && e.beq f
  | .bool e, .bool f => e.beq f
  | .ptr b o, .ptr c q => b == c && o == q
  | .slice b o l c, .slice b' o' l' c' => b == b' && o == o' && l == l' && c == c'
  | .map b, .map c => b == c
  | .str l, .str m => E.beqs l m
  | .raw v, .raw u => rawBeq v u
  | .agg l, .agg m => SV.beqs l m
  | .tuple l, .tuple m => SV.beqs l m
  | .func f x y, .func g u v => f == g && SV.beqs x u && SV.beqs y v
  | .inp k z o a b c, .inp k' z' o' a' b' c' => k == k' && z == z' && o == o' && a.beq a' && b.beq b' && c.beq c'
  | .iptr k z a i o, .iptr k' z' a' i' o' => k == k' && z == z' && a.beq a' && i.beq i' && o == o'
  | _, _ => false
def SV.beqs : List SV → List SV → Bool
  | [], [] => true
  | a :: l, b :: m => SV.beq a b && SV.beqs l m
  | _, _ => false
end
mutual
theorem SV.beq_eq : ∀ (a b : SV), SV.beq a b = true → a = b
  | .int k e, b, h => by
    cases b <;> simp [SV.beq] at h
    rw [kTag_inj h.1, E.beq_eq _ _ h.2]
  | .bool e, b, h => by cases b <;> simp [SV.beq] at h; rw [E.beq_eq _ _ h]
  | .ptr _ _, b, h => by cases b <;> simp [SV.beq] at h; rw [h.1, h.2]
  | .slice _ _ _ _, b, h => by cases b <;> simp [SV.beq] at h; rw [h.1.1.1, h.1.1.2, h.1.2, h.2]
  | .map _, b, h => by cases b <;> simp [SV.beq] at h; rw [h]
  | .str l, b, h => by cases b <;> simp [SV.beq] at h; rw [E.beqs_eq _ _ h]
  | .raw v, b, h => by cases b <;> simp [SV.beq] at h; rw [rawBeq_eq h]
  | .agg l, b, h => by cases b <;> simp [SV.beq] at h; rw [SV.beqs_eq _ _ h]
  | .tuple l, b, h => by cases b <;> simp [SV.beq] at h; rw [SV.beqs_eq _ _ h]
  | .func f x y, b, h => by
    cases b <;> simp [SV.beq] at h
    rw [h.1.1, SV.beqs_eq _ _ h.1.2, SV.beqs_eq _ _ h.2]
  | .inp k z o a b c, d, h => by
    cases d <;> simp [SV.beq] at h
    obtain ⟨⟨⟨⟨⟨h1, h2⟩, h3⟩, h4⟩, h5⟩, h6⟩ := h
    rw [h1, h2, h3, E.beq_eq _ _ h4, E.beq_eq _ _ h5, E.beq_eq _ _ h6]
  | .iptr k z a i o, d, h => by
    cases d <;> simp [SV.beq] at h
    obtain ⟨⟨⟨⟨h1, h2⟩, h3⟩, h4⟩, h5⟩ := h
    rw [h1, h2, E.beq_eq _ _ h3, E.beq_eq _ _ h4, h5]
theorem SV.beqs_eq : ∀ (a b : List SV), SV.beqs a b = true → a = b
  | [], b, h => by cases b <;> simp [SV.beqs] at h; rfl
  | x :: l, b, h => by
    cases b <;> simp [SV.beqs] at h
    rw [SV.beq_eq _ _ h.1, SV.beqs_eq _ _ h.2]
end
def entsBeq : List (SV × SV × Nat) → List (SV × SV × Nat) → Bool
  | [], [] => true
  | (a, b, n) :: l, (c, d, m) :: l' => a.beq c && b.beq d && n == m && entsBeq l l'
  | _, _ => false
theorem entsBeq_eq : ∀ {l m : List (SV × SV × Nat)}, entsBeq l m = true → l = m
  | [], [], _ => rfl
  | [], _ :: _, h => by cases h
  | _ :: _, [], h => by cases h
  | (a, b, n) :: l, (c, d, m) :: l', h => by
    simp only [entsBeq, Bool.and_eq_true, beq_iff_eq] at h
    rw [SV.beq_eq _ _ h.1.1.1, SV.beq_eq _ _ h.1.1.2, h.1.2, entsBeq_eq h.2]
def Bx.beq : Bx → Bx → Bool
  | .map l c, .map m d => entsBeq l m && c == d
  | .cells c ty t, .cells d tz u => SV.beqs c d && ty == tz && t == u
  | .ro c, .ro d => SV.beqs c d
  | .gone, .gone => true
  | .arr a ks l, .arr a' ks' l' => a == a' && (ks.map (Lk.code · 0) == ks'.map (Lk.code · 0)) && l.beq l' && (ks.all fun k => match k with | .bool => false | _ => true) && (ks'.all fun k => match k with | .bool => false | _ => true)
  | _, _ => false
theorem code_inj : ∀ {ks ks' : List Lk}, ks.map (Lk.code · 0) = ks'.map (Lk.code · 0) → (ks.all fun k => match k with | .bool => false | _ => true) = true → (ks'.all fun k => match k with | .bool => false | _ => true) = true → ks = ks'
  | [], [], _, _, _ => rfl
  | [], _ :: _, h, _, _ => by simp at h
  | _ :: _, [], h, _, _ => by simp at h
  | k :: ks, k' :: ks', h, h1, h2 => by
    simp only [List.map_cons, List.cons.injEq] at h
    simp only [List.all_cons, Bool.and_eq_true] at h1 h2
    rw [code_inj h.2 h1.2 h2.2]
    cases k with
    | bool => cases h1.1
    | int i => cases k' with
      | bool => cases h2.1
      | int j =>
        have : kTag i = kTag j := by simpa [Lk.code] using h.1
        rw [kTag_inj this]
theorem Bx.beq_eq {a b : Bx} (h : a.beq b = true) : a = b := by
  unfold Bx.beq at h
  split at h
  · simp only [Bool.and_eq_true, beq_iff_eq] at h
    rw [entsBeq_eq h.1, h.2]
  · simp only [Bool.and_eq_true, beq_iff_eq] at h
    rw [SV.beqs_eq _ _ h.1.1, h.1.2, h.2]
  · rw [SV.beqs_eq _ _ h]
  · rfl
  · simp only [Bool.and_eq_true, beq_iff_eq] at h
    obtain ⟨⟨⟨⟨h1, h2⟩, h3⟩, h4⟩, h5⟩ := h
    rw [h1, E.beq_eq _ _ h3, code_inj h2 h4 h5]
  · cases h
def allN (p : Nat → Bool) : Nat → Bool
  | 0 => true
  | n + 1 => allN p n && p n
theorem allN_spec {p : Nat → Bool} : ∀ {n : Nat}, allN p n = true → ∀ i, i < n → p i = true
  | 0, _, i, h => absurd h (Nat.not_lt_zero i)
  | n + 1, h, i, hi => by
    simp only [allN, Bool.and_eq_true] at h
    by_cases he : i = n
    · rw [he]; exact h.2
    · exact allN_spec h.1 i (by omega)
def fsBeq : List (E × Bool) → List (E × Bool) → Bool
  | [], [] => true
  | (a, b) :: l, (c, d) :: m => a.beq c && b == d && fsBeq l m
  | _, _ => false
theorem fsBeq_eq : ∀ {a b : List (E × Bool)}, fsBeq a b = true → a = b
  | [], [], _ => rfl
  | [], _ :: _, h => by cases h
  | _ :: _, [], h => by cases h
  | (a, b) :: l, (c, d) :: m, h => by
    simp only [fsBeq, Bool.and_eq_true, beq_iff_eq] at h
    rw [E.beq_eq _ _ h.1.1, h.1.2, fsBeq_eq h.2]
/-- Two states that come to the same. -/
def St.same (s t : St) : Bool := s.sz == t.sz && allN (fun i => (s.tmps i).beq (t.tmps i)) s.sz && s.hp.n == t.hp.n && allN (fun k => (s.hp.box k).rw == (t.hp.box k).rw && (s.hp.box k).c.beq (t.hp.box k).c) s.hp.n && fsBeq s.facts t.facts
theorem St.same_spec {s t : St} (h : s.same t = true) : s.sz = t.sz ∧ (∀ i, i < s.sz → s.tmps i = t.tmps i) ∧ s.hp.n = t.hp.n ∧ (∀ k, s.hp.at k = t.hp.at k) ∧ s.facts = t.facts := by
  simp only [St.same, Bool.and_eq_true, beq_iff_eq] at h
  obtain ⟨⟨⟨⟨h1, h2⟩, h3⟩, h4⟩, h5⟩ := h
  refine ⟨h1, fun i hi => SV.beq_eq _ _ (allN_spec h2 i hi), h3, fun k => ?_, fsBeq_eq h5⟩
  unfold Hp.at
  rw [blt_iff, blt_iff, ← h3]
  by_cases hk : k < s.hp.n
  · have := allN_spec h4 k hk
    simp only [Bool.and_eq_true, beq_iff_eq] at this
    have hb : s.hp.box k = t.hp.box k := by
      have h6 := Bx.beq_eq this.2
      have h7 := this.1
      generalize s.hp.box k = x at *
      generalize t.hp.box k = y at *
      obtain ⟨r, c⟩ := x
      obtain ⟨r', c'⟩ := y
      simp only at h6 h7
      rw [h6, h7]
    simp [hk, hb]
  · simp [hk]
section
variable {ρ : Env} {w0 : World} {M : Nat → Prop} {gl : Gl} {β : Bm} {w : World} {hp : Hp}
theorem Conc.same {s t : St} {a : Act} (h : s.same t = true) (hc : Conc ρ w0 M gl β t a w) : Conc ρ w0 M gl β s a w := by
  obtain ⟨h1, h2, h3, h4, h5⟩ := St.same_spec h
  refine ⟨by rw [h1]; exact hc.size, fun i hi => by rw [h2 i hi]; exact hc.tmps i (h1 ▸ hi), hc.defers, fun i hi => by rw [h2 i hi, h3]; exact hc.good i (h1 ▸ hi), ?_, by rw [h5]; exact hc.facts, by rw [h3]; exact hc.gl⟩
  have hh := hc.heap
  exact ⟨fun k b hk => hh.lies k b (h4 k ▸ hk), fun j k b b' hj hk => hh.inj j k b b' (h4 j ▸ hj) (h4 k ▸ hk), fun k b hk => hh.mine k b (h4 k ▸ hk), fun k b hk => by rw [h3]; exact hh.good k b (h4 k ▸ hk), hh.kept, fun k b hk => hh.arrs k b (h4 k ▸ hk)⟩
theorem Later.same {s t : St} {K : Act → World → Prop} (hl : Later ρ w0 M gl β hp s K) (h : s.same t = true) : Later ρ w0 M gl β hp t K := fun β' a' w' hx hn hs hc => by
  obtain ⟨h1, h2, h3, h4, h5⟩ := St.same_spec h
  exact hl β' a' w' hx (by rw [h3]; exact hn) (fun k b hk hr => by rw [h4]; exact hs k b hk hr) (hc.same h)
end
def T.same : T St → T St → Bool
  | .ok s, .ok t => s.same t
  | .br c a b, .br d e f => c.beq d && a.same e && b.same f
  | _, _ => false
/-- Of orders that come to the same, one. -/
def T.dd : T St → T St
  | .ok s => .ok s
  | .br c a b => .br c a.dd b.dd
  | .both a b => if a.dd.same b.dd then a.dd else .both a.dd b.dd
  | .bad n => .bad n
theorem T.same_holds {ρ : Env} {Q : St → Prop} (hQ : ∀ s t : St, s.same t = true → Q s → Q t) : ∀ {a b : T St}, a.same b = true → a.holds ρ Q → b.holds ρ Q
  | .ok s, b, h, hh => by
    cases b with
    | ok t => exact hQ s t h hh
    | _ => cases h
  | .br c x y, b, h, hh => by
    cases b with
    | br d e f =>
      simp only [T.same, Bool.and_eq_true] at h
      have hcd := E.beq_eq _ _ h.1.1
      subst hcd
      exact ⟨fun h1 => T.same_holds hQ h.1.2 (hh.1 h1), fun h1 => T.same_holds hQ h.2 (hh.2 h1)⟩
    | _ => cases h
  | .both _ _, b, h, _ => by cases b <;> cases h
  | .bad _, b, h, _ => by cases b <;> cases h
theorem T.dd_holds {ρ : Env} {Q : St → Prop} (hQ : ∀ s t : St, s.same t = true → Q s → Q t) : ∀ {a : T St}, a.dd.holds ρ Q → a.holds ρ Q
  | .ok _, h => h
  | .br _ _ _, h => ⟨fun h1 => T.dd_holds hQ (h.1 h1), fun h1 => T.dd_holds hQ (h.2 h1)⟩
  | .both a b, h => by
    unfold T.dd at h
    split at h
    · rename_i hs
      exact ⟨T.dd_holds hQ h, T.dd_holds hQ (T.same_holds hQ hs h)⟩
    · exact ⟨T.dd_holds hQ h.1, T.dd_holds hQ h.2⟩
  | .bad _, h => h
end Go.Proofs.YthbfjnmdjehljaaDoor.SX
