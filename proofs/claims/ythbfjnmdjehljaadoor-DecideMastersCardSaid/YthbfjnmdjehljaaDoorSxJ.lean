/- Functions whose arguments hold a slice of plain data: contracts out of walks, laws by contracts. Of no program. -/
import Derived.Test.YthbfjnmdjehljaaDoorSxD
namespace Go.Proofs.YthbfjnmdjehljaaDoor.SX
open Go Go.RowKit
set_option linter.unusedVariables false
set_option linter.unusedSimpArgs false

/-! ### Expressions of the variables below K -/
mutual
def E.upto (K : Nat) : E → Bool
  | .lit _ => true
  | .var i => decide (i < K)
  | .rd _ _ i => E.upto K i
  | .bin _ _ a b => E.upto K a && E.upto K b
  | .app _ _ l => E.uptos K l
def E.uptos (K : Nat) : List E → Bool
  | [] => true
  | e :: l => E.upto K e && E.uptos K l
end
mutual
theorem E.ev_same {K : Nat} {ρ ρ' : Env} (h : SameK K ρ ρ') : ∀ e : E, e.upto K = true → e.ev ρ' = e.ev ρ
  | .lit _, _ => rfl
  | .var i, he => h.2.2 i (of_decide_eq_true he)
  | .rd a f i, he => by simp only [E.ev]; rw [E.ev_same h i he]; unfold Env.rd; rw [h.2.1]
  | .bin o k a b, he => by
    simp only [E.upto, Bool.and_eq_true] at he
    simp only [E.ev]; rw [E.ev_same h a he.1, E.ev_same h b he.2]
  | .app f j l, he => by simp only [E.ev]; rw [E.evs_same h l he, h.1]
theorem E.evs_same {K : Nat} {ρ ρ' : Env} (h : SameK K ρ ρ') : ∀ l : List E, E.uptos K l = true → E.evs ρ' l = E.evs ρ l
  | [], _ => rfl
  | e :: l, he => by
    simp only [E.uptos, Bool.and_eq_true] at he
    simp only [E.evs]; rw [E.ev_same h e he.1, E.evs_same h l he.2]
end
mutual
def SV.upto (K : Nat) : SV → Bool
  | .int _ e => e.upto K
  | .bool e => e.upto K
  | .ptr _ _ | .slice _ _ _ _ | .map _ | .raw _ => true
  | .str l => E.uptos K l
  | .agg l => SV.uptos K l
  | .tuple l => SV.uptos K l
  | .func _ x y => SV.uptos K x && SV.uptos K y
  | .inp _ _ _ _ b c => b.upto K && c.upto K
  | .iptr _ _ _ b _ => b.upto K
def SV.uptos (K : Nat) : List SV → Bool
  | [] => true
  | s :: l => SV.upto K s && SV.uptos K l
end
mutual
theorem SV.ev_same {K : Nat} {ρ ρ' : Env} {β : Bm} (h : SameK K ρ ρ') : ∀ s : SV, s.upto K = true → s.ev ρ' β = s.ev ρ β
  | .int _ e, he => by simp only [SV.ev]; rw [E.ev_same h e he]
  | .bool e, he => by simp only [SV.ev]; rw [E.ev_same h e he]
  | .ptr _ _, _ => rfl
  | .slice _ _ _ _, _ => rfl
  | .map _, _ => rfl
  | .raw _, _ => rfl
  | .str l, he => by simp only [SV.ev]; rw [E.evs_same h l he]
  | .agg l, he => by simp only [SV.ev]; rw [SV.evs_same h l he]
  | .tuple l, he => by simp only [SV.ev]; rw [SV.evs_same h l he]
  | .func _ x y, he => by
    simp only [SV.upto, Bool.and_eq_true] at he
    simp only [SV.ev]; rw [SV.evs_same h x he.1, SV.evs_same h y he.2]
  | .inp _ _ _ _ b c, he => by
    simp only [SV.upto, Bool.and_eq_true] at he
    simp only [SV.ev]; rw [E.ev_same h b he.1, E.ev_same h c he.2]
  | .iptr _ _ _ b _, he => by simp only [SV.ev]; rw [E.ev_same h b he]
theorem SV.evs_same {K : Nat} {ρ ρ' : Env} {β : Bm} (h : SameK K ρ ρ') : ∀ l : List SV, SV.uptos K l = true → SV.evs ρ' β l = SV.evs ρ β l
  | [], _ => rfl
  | s :: l, he => by
    simp only [SV.uptos, Bool.and_eq_true] at he
    simp only [SV.evs]; rw [SV.ev_same h s he.1, SV.evs_same h l he.2]
end

/-! ### A slice of plain data in memory -/
structure ArrIn (w : World) (ks : List Lk) (b off len cap : Nat) (A : Nat → Nat → Int → Int) : Prop where
  le : len ≤ cap
  max : cap ≤ 9223372036854775807
  pos : 0 < len
  lt : b < w.heap.size
  cell : ∀ (i f : Nat) (l : Lk), i < len → ks[f]? = some l → w.cell? ⟨b, off + (i * ks.length + f), none⟩ = some (l.val ((kOf (l.code f)).wrap (A 0 (l.code f) i))) ∧ l.fits ((kOf (l.code f)).wrap (A 0 (l.code f) i))
theorem ArrIn.keep {w w' : World} {ks : List Lk} {b off len cap : Nat} {A : Nat → Nat → Int → Int} (h : ArrIn w ks b off len cap A) (hb : w'.heap[b]? = w.heap[b]?) : ArrIn w' ks b off len cap A := by
  refine ⟨h.le, h.max, h.pos, ?_, fun i f l hi hl => ?_⟩
  · have := h.lt
    have h1 : w.heap[b]? ≠ none := by rw [Array.getElem?_eq_getElem this]; exact Option.some_ne_none _
    rw [← hb] at h1
    by_cases h2 : b < w'.heap.size
    · exact h2
    · exact absurd (Array.getElem?_eq_none (by omega)) h1
  · have : w'.cell? ⟨b, off + (i * ks.length + f), none⟩ = w.cell? ⟨b, off + (i * ks.length + f), none⟩ := by unfold World.cell?; simp only [hb]
    rw [this]
    exact h.cell i f l hi hl
theorem ArrIn.below {w w' : World} {ks : List Lk} {b off len cap : Nat} {A : Nat → Nat → Int → Int} (h : ArrIn w ks b off len cap A) (hb : Below w.heap.size w w') : ArrIn w' ks b off len cap A := h.keep (hb.block b h.lt)
section
variable {P : Program} {w : World}
/-- A slice that the heap at hand knows. -/
theorem ArrIn.of_heap {ρ : Env} {w0 : World} {M : Nat → Prop} {β : Bm} {hp : Hp} (hh : Heap ρ w0 M β hp w) {k : Nat} {r : Bool} {ks : List Lk} {len0 len cap : E} (hk : hp.at k = some ⟨r, .arr 0 ks len0⟩)
    (h0 : (len.ev ρ) = len0.ev ρ) (h1 : 0 < len.ev ρ) (h2 : len.ev ρ ≤ cap.ev ρ) (h3 : cap.ev ρ ≤ 9223372036854775807) : ArrIn w ks (β k).1 (β k).2 (len.ev ρ).toNat (cap.ev ρ).toNat ρ.arr := by
  refine ⟨by omega, by omega, by omega, Nat.lt_of_lt_of_le (hh.arrs k _ hk rfl).1 hh.kept.size, fun i f l hi hl => ?_⟩
  have := hh.lies k _ hk
  simp only [Bx.lies] at this
  exact this i f l (by rw [← h0]; exact hi) hl
theorem ArrIn.of_in {ks : List Lk} {S : Value} (h : InSl w ks S) : S = .slice none 0 0 ∨ (∃ (b off cap : Nat), S = .slice (some ⟨b, off, none⟩) 0 cap ∧ cap ≤ maxLen) ∨
    ∃ (b off len cap : Nat) (A : Nat → Nat → Int → Int), S = .slice (some ⟨b, off, none⟩) len cap ∧ ArrIn w ks b off len cap A ∧ cap ≤ maxLen := by
  rcases h with rfl | ⟨b, off, len, cap, c, rfl, h1, h2, h3, h4⟩
  · exact .inl rfl
  · by_cases h0 : len = 0
    · subst h0
      exact .inr (.inl ⟨b, off, cap, rfl, h2⟩)
    · refine .inr (.inr ⟨b, off, len, cap, arrOf ks c, rfl, ⟨h1, by unfold maxLen at h2; omega, by omega, h3 (by omega), fun i f l hi hl => ?_⟩, h2⟩)
      obtain ⟨q1, q2⟩ := arrOf_spec (F := fun _ _ _ => 0) (ns := []) hl (h4 i f l hl).1
      rw [(h4 i f l hl).2 hi]
      exact ⟨by rw [← q1]; rfl, q2⟩
/-- The known heap of a call with such a slice. -/
theorem arr_start {ks : List Lk} {b off len cap : Nat} {A : Nat → Nat → Int → Int} (tabs : Tabs) (hd : (tabs.map (·.1)).Nodup) (ht : TabsIn tabs w) (h : ArrIn w ks b off len cap A) (F : Nat → Nat → List Int → Int) (ns : List Int) {m : Nat} (hn1 : ns.getD m 0 = len) (hn2 : ns.getD (m + 1) 0 = cap) :
    Heap (envA F ns A) w (fun _ => False) (upd (tabB tabs) tabs.length (b, off)) (arrHp tabs ks m) w ∧ GlOk (tabGl tabs 0) (upd (tabB tabs) tabs.length (b, off)) (tabs.length + 1) ∧ FsOk (envA F ns A) (lenFacts m) ∧
    (SV.inp tabs.length ks.length 0 (.var m) (.var m) (.var (m + 1))).ok (envA F ns A) (tabs.length + 1) ∧ (SV.inp tabs.length ks.length 0 (.var m) (.var m) (.var (m + 1))).ev (envA F ns A) (upd (tabB tabs) tabs.length (b, off)) = .slice (some ⟨b, off, none⟩) len cap := by
  have i1 : IntKind.i64.min = -9223372036854775808 := by decide
  have i2 : IntKind.i64.max = 9223372036854775807 := by decide
  have hle := h.le
  have hmx := h.max
  have hps := h.pos
  refine ⟨(tab_heap hd ht _ _).pushRo (b := .arr 0 ks (.var m)) (bv := (b, off)) rfl trivial ?_ (fun _ => ⟨h.lt, fun h => h⟩), ?_, ?_, ⟨Nat.lt_succ_self _, ?_, ?_, ?_, ?_⟩, ?_⟩
  · intro i f l hi hl
    simp only [E.ev, envA, hn1] at hi
    exact h.cell i f l (by simpa using hi) hl
  · exact tab_gl (fun j p hj => by
      have hjl := (List.getElem?_eq_some_iff.1 hj).1
      have : upd (tabB tabs) tabs.length (b, off) (0 + j) = tabB tabs j := by rw [Nat.zero_add]; exact upd_ext _ _ _ j hjl
      rw [this]; simp [tabB, hj]) (by omega)
  · intro p hp
    simp only [lenFacts, List.mem_cons, List.not_mem_nil, or_false] at hp
    rcases hp with rfl | rfl | rfl | rfl <;> simp only [E.ev, BOp.ev, envA, hn1, hn2, i1, i2]
    · rw [if_pos (by omega)]; simp
    · rw [if_pos (by omega)]; simp
    · rw [if_pos (by omega)]; simp
    · rw [if_neg (by omega)]; simp
  · simp only [E.ev, envA, hn1]
    exact (wf_iff .i64 _).2 (by rw [i1, i2]; omega)
  · simp only [E.ev, envA, hn1]; omega
  · simp only [E.ev, envA, hn1, hn2]; omega
  · simp only [E.ev, envA, hn1]; omega
  · simp only [SV.ev, E.ev, envA, hn1, hn2, upd_same]
    simp
theorem phOne_pos : ∀ {hs : List Ph}, phOne hs = true → 0 < (phKs hs).length
  | [], h => by cases h
  | .sh _ :: l, h => phOne_pos (hs := l) h
  | .sl ks :: l, h => by
    simp only [phOne, Bool.and_eq_true, Bool.not_eq_true'] at h
    cases ks with
    | nil => cases h.1
    | cons _ _ => simp [phKs]
theorem phOne_rest {l : List Ph} (h : (l.all fun p => match p with
    | .sh _ => true
    | .sl _ => false) = true) : ∀ p ∈ l, ∀ ks, p ≠ .sl ks := fun p hp ks e => by
  have := List.all_eq_true.1 h p hp
  subst e
  cases this
theorem phOne_ks : ∀ {hs : List Ph}, phOne hs = true → ∀ p ∈ hs, ∀ ks', p = .sl ks' → ks' = phKs hs
  | [], h => by cases h
  | .sh _ :: l, h => fun p hp ks' e => by
    rcases List.mem_cons.1 hp with rfl | hp
    · cases e
    · exact phOne_ks (hs := l) h p hp ks' e
  | .sl ks :: l, h => fun p hp ks' e => by
    simp only [phOne, Bool.and_eq_true] at h
    rcases List.mem_cons.1 hp with rfl | hp
    · cases e; rfl
    · exact absurd e (phOne_rest h.2 p hp ks')
theorem phOne_one : ∀ {hs : List Ph}, phOne hs = true → (hs.filter fun p => match p with | .sh _ => false | .sl _ => true).length = 1
  | [], h => by cases h
  | .sh _ :: l, h => by
    have := phOne_one (hs := l) h
    simpa using this
  | .sl ks :: l, h => by
    simp only [phOne, Bool.and_eq_true] at h
    have : l.filter (fun p => match p with | .sh _ => false | .sl _ => true) = [] := by
      rw [List.filter_eq_nil_iff]
      intro q hq
      cases q with
      | sh _ => simp
      | sl ks' => exact (phOne_rest h.2 _ hq ks' rfl).elim
    simp [this]

/-! ### Ends -/
def expBoxes (fs : Fs) (hp : Hp) : List (Nat × Bx) → Bool
  | [] => true
  | (k, b) :: l => (match hp.at k with
    | some ⟨r, c⟩ => (r || !b.live) && b.fit fs (fun i => .var i) id hp.n c
    | none => false) && expBoxes fs hp l
/-- An end that returns what is wanted, with the boxes that are wanted. -/
def wantEnd (P : Program) (fn : Func) (want : List SV) (bs : List (Nat × Bx)) (r : Rs) : Bool :=
  match r.x with
  | .exit _ => false
  | _ => match resultsS P r.st fn.results.toList with
    | some vs => SV.fitL r.st.facts (fun i => .var i) id r.st.hp.n want vs && expBoxes r.st.facts r.st.hp bs
    | none => false
theorem envSub_var (ρ : Env) : envSub ρ (fun i => .var i) = ρ := rfl
theorem expBoxes_spec {ρ : Env} {w0 : World} {M : Nat → Prop} {β : Bm} {hp : Hp} {fs : Fs} (hh : Heap ρ w0 M β hp w) (hf : FsOk ρ fs) : ∀ {l : List (Nat × Bx)}, expBoxes fs hp l = true →
    ∀ p ∈ l, p.2.lies ρ β (β p.1) w ∧ p.1 < hp.n ∧ (p.2.live = true → M (β p.1).1 ∨ w0.heap.size ≤ (β p.1).1)
  | [], _ => fun p hp => by cases hp
  | (k, b) :: l, h => fun p hpm => by
    simp only [expBoxes, Bool.and_eq_true] at h
    rcases List.mem_cons.1 hpm with rfl | hpm
    · have h1 := h.1
      split at h1
      · rename_i r c hk
        simp only [Bool.and_eq_true, Bool.or_eq_true, Bool.not_eq_true'] at h1
        obtain ⟨s1, s2, s3, s4⟩ := Bx.fit_spec (β := β) (m := hp.n) (w := w) hf h1.2
        rw [envSub_var] at s1
        refine ⟨s1 _ (hh.lies k _ hk), Hp.at_lt hk, fun hv => ?_⟩
        rcases h1.1 with hr | hr
        · subst hr; exact hh.mine k _ hk rfl (s3 hv)
        · simp only at hv; rw [hr] at hv; cases hv
      · cases h1
    · exact expBoxes_spec hh hf h.2 p hpm
theorem wantEnd_spec {ρ ρ' : Env} {w0 w' : World} {M : Nat → Prop} {gl : Gl} {β : Bm} {fn : Func} {want : List SV} {bs : List (Nat × Bx)} {K : Nat} (hρ : SameK K ρ ρ') (hw : SV.uptos K want = true) {r : Rs} {a : Act} (hst : Conc ρ' w0 M gl β r.st a w') (he : wantEnd P fn want bs r = true) :
    (∀ id, r.x ≠ .exit id) ∧ ∃ vs, resultsS P r.st fn.results.toList = some vs ∧ (packS vs).ev ρ' β = packV (SV.evs ρ β want) ∧ SV.oks ρ' r.st.hp.n want ∧ (∀ p ∈ bs, p.2.lies ρ' β (β p.1) w' ∧ (p.2.live = true → M (β p.1).1 ∨ w0.heap.size ≤ (β p.1).1)) ∧ Kept w0 M w' := by
  obtain ⟨x, st⟩ := r
  have main : ∀ vs, resultsS P st fn.results.toList = some vs → (SV.fitL st.facts (fun i => .var i) id st.hp.n want vs && expBoxes st.facts st.hp bs) = true →
      (packS vs).ev ρ' β = packV (SV.evs ρ β want) ∧ SV.oks ρ' st.hp.n want ∧ (∀ p ∈ bs, p.2.lies ρ' β (β p.1) w' ∧ (p.2.live = true → M (β p.1).1 ∨ w0.heap.size ≤ (β p.1).1)) ∧ Kept w0 M w' := fun vs hvs hb => by
    rw [Bool.and_eq_true] at hb
    obtain ⟨f1, f2⟩ := SV.fitL_spec (β := β) (m := st.hp.n) hst.facts _ _ hb.1
    rw [envSub_var] at f1 f2
    have hok := (resultsS_run hst hvs).2
    refine ⟨?_, f2 hok, fun p hp => ?_, hst.heap.kept⟩
    · rw [(packS_spec (β := β) vs hok).1, f1, SV.evs_same hρ want hw]
      rfl
    · obtain ⟨q1, q2, q3⟩ := expBoxes_spec hst.heap hst.facts hb.2 p hp
      exact ⟨q1, q3⟩
  unfold wantEnd at he
  cases x with
  | exit id => cases he
  | normal =>
    simp only at he
    split at he
    · rename_i vs hvs
      exact ⟨fun id h => Ex.noConfusion h, vs, hvs, main vs hvs he⟩
    · cases he
  | ret =>
    simp only at he
    split at he
    · rename_i vs hvs
      exact ⟨fun id h => Ex.noConfusion h, vs, hvs, main vs hvs he⟩
    · cases he
/-- A law's end. -/
theorem lawEnd_spec {ρ' : Env} {w0 w' : World} {gl : Gl} {β : Bm} {fn : Func} {r : Rs} {a : Act} (hst : Conc ρ' w0 (fun _ => False) gl β r.st a w') (he : lawEnd P fn r = true) :
    (∀ id, r.x ≠ .exit id) ∧ ∃ vs, resultsS P r.st fn.results.toList = some vs ∧ (Ending.returned ((packS vs).ev ρ' β) = .returned (.bool true) ∧ Below w0.heap.size w0 w') := by
  obtain ⟨x, st⟩ := r
  have main : ∀ vs, resultsS P st fn.results.toList = some vs → (isTrueF ⟨packS vs, st.hp, st.facts⟩ || absurdB st.facts st.facts) = true → (Ending.returned ((packS vs).ev ρ' β) = .returned (.bool true) ∧ Below w0.heap.size w0 w') := fun vs hvs ht => by
    rw [Bool.or_eq_true] at ht
    rcases ht with ht | ht
    · have := isTrueF_spec (o := ⟨packS vs, st.hp, st.facts⟩) hst.facts ht β
      simp only at this
      exact ⟨by rw [this], hst.heap.kept.to_below⟩
    · exact (absurdB_spec hst.facts ht).elim
  unfold lawEnd at he
  cases x with
  | exit id => cases he
  | normal =>
    simp only at he
    split at he
    · rename_i vs hvs
      exact ⟨fun id h => Ex.noConfusion h, vs, hvs, main vs hvs he⟩
    · cases he
  | ret =>
    simp only at he
    split at he
    · rename_i vs hvs
      exact ⟨fun id h => Ex.noConfusion h, vs, hvs, main vs hvs he⟩
    · cases he
/-- A function with a slice among its arguments, as its ways end. -/
theorem fn_arr {R : Ending → World → Prop} {call : Caller} {keep : Nat → List Nat} {fuel : Nat} {cuts : List CutR} {endOk : Rs → Bool} {C : Code} {b off len cap : Nat} {A : Nat → Nat → Int → Int} (tabs : Tabs) (hd : (tabs.map (·.1)).Nodup) (ht : TabsIn tabs w) (hm : P.follows .mixedOrders = true) (F : Nat → Nat → List Int → Int)
    {f : FuncId} {fn : Func} (hfn : P.funcs[f]? = some fn) (hbd : fn.body = some C) {hs : List Ph} (h1 : phOne hs = true) (h : ArrIn w (phKs hs) b off len cap A) {ns : List Int} (hns : phFits hs ns) (hlen : ns.length = phSize hs) {rk : Nat} {p : Fs} (hp : FsOk (envA F (ns ++ [(len : Int), (cap : Int)]) A) p)
    (hc : ∀ ρ', SameK (phSize hs + 2) (envA F (ns ++ [(len : Int), (cap : Int)]) A) ρ' → CallOk P ρ' w (fun _ => False) (tabGl tabs 0) call)
    (hrule : ∀ ρ', SameK (phSize hs + 2) (envA F (ns ++ [(len : Int), (cap : Int)]) A) ρ' → ∀ c ∈ cuts, ∀ t ∈ c.ts, ∀ r ∈ t.rs, RuleOk ρ' r)
    (hr : ∀ c ∈ cuts, ∀ t ∈ c.ts, ∃ ct : CT, ∀ g, ct.all fun p => roundOkR P (tabGl tabs 0) call keep fuel cuts endOk (phSize hs + 2) C p c t g = true) {rs0 : List Rule} (hr0 : ∀ r ∈ rs0, RuleOk (envA F (ns ++ [(len : Int), (cap : Int)]) A) r)
    (he : (execP P (tabGl tabs 0) call keep fuel C (entrySt fn (phArgs tabs.length (phSize hs) none hs 0) (arrHp tabs (phKs hs) (phSize hs)) (p ++ (lenFacts (phSize hs) ++ phFacts hs 0)))).all (leafOkR (tabGl tabs 0) cuts endOk (phSize hs + 2) rs0 rk) = true)
    (hend : ∀ ρ' (β' : Bm) (r : Rs) (a : Act) (w' : World), SameK (phSize hs + 2) (envA F (ns ++ [(len : Int), (cap : Int)]) A) ρ' → Conc ρ' w (fun _ => False) (tabGl tabs 0) β' r.st a w' → endOk r = true → (∀ id, r.x ≠ .exit id) ∧ ∃ vs, resultsS P r.st fn.results.toList = some vs ∧ R (.returned ((packS vs).ev ρ' β')) w') :
    Calls P f (phVals hs ns [.slice (some ⟨b, off, none⟩) len cap]).toArray w R := by
  have hv1 : (ns ++ [(len : Int), (cap : Int)]).getD (phSize hs) 0 = len := by rw [← hlen]; simp
  have hv2 : (ns ++ [(len : Int), (cap : Int)]).getD (phSize hs + 1) 0 = cap := by rw [← hlen]; simp
  obtain ⟨a1, a2⟩ := ph_append (hs := hs) (ms := [(len : Int), (cap : Int)]) (ss := [.slice (some ⟨b, off, none⟩) len cap]) hlen
  have hf := a2.2 hns
  obtain ⟨s1, s2, s3, s4, s5⟩ := arr_start tabs hd ht h F (ns ++ [(len : Int), (cap : Int)]) (m := phSize hs) hv1 hv2
  obtain ⟨p1, p2⟩ := phArgs_spec (F := F) (A := A) (n := tabs.length + 1) (k := tabs.length) (m := phSize hs) (raw := none) (ks := phKs hs) s5 s4 (hs := hs) (i := 0) (ss := [.slice (some ⟨b, off, none⟩) len cap]) hf (phOne_ks h1) (fun j hj => by
    have e1 := phOne_one h1
    have : j < 1 := e1 ▸ hj
    obtain rfl : j = 0 := by omega
    rfl)
  rw [List.drop_zero, a1] at p1
  rw [← p1]
  exact fn_run hc hm hfn hbd s1 s2 (fsOk_app hp (fsOk_app s3 (phFacts_ok hf))) p2 hrule hr hr0 he hend
/-- .. that returns what is wanted, plain data. -/
theorem fn_arr_val {call : Caller} {keep : Nat → List Nat} {fuel : Nat} {cuts : List CutR} {C : Code} {b off len cap : Nat} {A : Nat → Nat → Int → Int} (tabs : Tabs) (hd : (tabs.map (·.1)).Nodup) (ht : TabsIn tabs w) (hm : P.follows .mixedOrders = true) (F : Nat → Nat → List Int → Int)
    {f : FuncId} {fn : Func} (hfn : P.funcs[f]? = some fn) (hbd : fn.body = some C) {hs : List Ph} (h1 : phOne hs = true) (h : ArrIn w (phKs hs) b off len cap A) {ns : List Int} (hns : phFits hs ns) (hlen : ns.length = phSize hs) {rk : Nat} {p : Fs} (hp : FsOk (envA F (ns ++ [(len : Int), (cap : Int)]) A) p)
    {want : List SV} (hw : SV.uptos (phSize hs + 2) want = true) (hfl : SV.flats want = true)
    (hc : ∀ ρ', SameK (phSize hs + 2) (envA F (ns ++ [(len : Int), (cap : Int)]) A) ρ' → CallOk P ρ' w (fun _ => False) (tabGl tabs 0) call)
    (hrule : ∀ ρ', SameK (phSize hs + 2) (envA F (ns ++ [(len : Int), (cap : Int)]) A) ρ' → ∀ c ∈ cuts, ∀ t ∈ c.ts, ∀ r ∈ t.rs, RuleOk ρ' r)
    (hr : ∀ c ∈ cuts, ∀ t ∈ c.ts, ∃ ct : CT, ∀ g, ct.all fun p => roundOkR P (tabGl tabs 0) call keep fuel cuts (wantEnd P fn want []) (phSize hs + 2) C p c t g = true) {rs0 : List Rule} (hr0 : ∀ r ∈ rs0, RuleOk (envA F (ns ++ [(len : Int), (cap : Int)]) A) r)
    (he : (execP P (tabGl tabs 0) call keep fuel C (entrySt fn (phArgs tabs.length (phSize hs) none hs 0) (arrHp tabs (phKs hs) (phSize hs)) (p ++ (lenFacts (phSize hs) ++ phFacts hs 0)))).all (leafOkR (tabGl tabs 0) cuts (wantEnd P fn want []) (phSize hs + 2) rs0 rk) = true) :
    Calls P f (phVals hs ns [.slice (some ⟨b, off, none⟩) len cap]).toArray w fun e w' => e = .returned (packV (SV.evs (envA F (ns ++ [(len : Int), (cap : Int)]) A) β0 want)) ∧ Below w.heap.size w w' :=
  fn_arr tabs hd ht hm F hfn hbd h1 h hns hlen hp hc hrule hr hr0 he fun ρ' β' r a w' hρ hst hend => by
    obtain ⟨q1, vs, q2, q3, _, _, q6⟩ := wantEnd_spec hρ hw hst hend
    exact ⟨q1, vs, q2, by rw [q3, SV.evs_flat β' β0 want hfl], q6.to_below⟩
theorem cells_same {K : Nat} {ρ ρ' : Env} (hρ : SameK K ρ ρ') {c : List SV} (hc : SV.uptos K c = true) {ty t : Nat} {β : Bm} {bv : Nat × Nat} {w : World} (h : (Bx.cells c ty t).lies ρ' β bv w) : (Bx.cells c ty t).lies ρ β bv w := by
  cases t with
  | zero => simp only [Bx.lies] at *; rw [← SV.evs_same hρ c hc]; exact h
  | succ s => simp only [Bx.lies] at *; rw [← SV.evs_same hρ c hc]; exact h
/-- .. that returns what is wanted, a new slice among it (box k). -/
theorem fn_arr_new {call : Caller} {keep : Nat → List Nat} {fuel : Nat} {cuts : List CutR} {C : Code} {b off len cap : Nat} {A : Nat → Nat → Int → Int} (tabs : Tabs) (hd : (tabs.map (·.1)).Nodup) (ht : TabsIn tabs w) (hm : P.follows .mixedOrders = true) (F : Nat → Nat → List Int → Int)
    {f : FuncId} {fn : Func} (hfn : P.funcs[f]? = some fn) (hbd : fn.body = some C) {hs : List Ph} (h1 : phOne hs = true) (h : ArrIn w (phKs hs) b off len cap A) {ns : List Int} (hns : phFits hs ns) (hlen : ns.length = phSize hs) {rk : Nat} {p : Fs} (hp : FsOk (envA F (ns ++ [(len : Int), (cap : Int)]) A) p)
    {want : List SV} (hw : SV.uptos (phSize hs + 2) want = true) {k ty tl : Nat} {cs : List SV} (hcs : SV.uptos (phSize hs + 2) cs = true)
    (hc : ∀ ρ', SameK (phSize hs + 2) (envA F (ns ++ [(len : Int), (cap : Int)]) A) ρ' → CallOk P ρ' w (fun _ => False) (tabGl tabs 0) call)
    (hrule : ∀ ρ', SameK (phSize hs + 2) (envA F (ns ++ [(len : Int), (cap : Int)]) A) ρ' → ∀ c ∈ cuts, ∀ t ∈ c.ts, ∀ r ∈ t.rs, RuleOk ρ' r)
    (hr : ∀ c ∈ cuts, ∀ t ∈ c.ts, ∃ ct : CT, ∀ g, ct.all fun p => roundOkR P (tabGl tabs 0) call keep fuel cuts (wantEnd P fn want [(k, .cells cs ty tl)]) (phSize hs + 2) C p c t g = true) {rs0 : List Rule} (hr0 : ∀ r ∈ rs0, RuleOk (envA F (ns ++ [(len : Int), (cap : Int)]) A) r)
    (he : (execP P (tabGl tabs 0) call keep fuel C (entrySt fn (phArgs tabs.length (phSize hs) none hs 0) (arrHp tabs (phKs hs) (phSize hs)) (p ++ (lenFacts (phSize hs) ++ phFacts hs 0)))).all (leafOkR (tabGl tabs 0) cuts (wantEnd P fn want [(k, .cells cs ty tl)]) (phSize hs + 2) rs0 rk) = true) :
    Calls P f (phVals hs ns [.slice (some ⟨b, off, none⟩) len cap]).toArray w fun e w' => ∃ β' : Bm, e = .returned (packV (SV.evs (envA F (ns ++ [(len : Int), (cap : Int)]) A) β' want)) ∧ (Bx.cells cs ty tl).lies (envA F (ns ++ [(len : Int), (cap : Int)]) A) β' (β' k) w' ∧ w.heap.size ≤ (β' k).1 ∧ Below w.heap.size w w' :=
  fn_arr tabs hd ht hm F hfn hbd h1 h hns hlen hp hc hrule hr hr0 he fun ρ' β' r a w' hρ hst hend => by
    obtain ⟨q1, vs, q2, q3, _, q5, q6⟩ := wantEnd_spec hρ hw hst hend
    obtain ⟨l1, l2⟩ := q5 _ (List.mem_cons_self ..)
    refine ⟨q1, vs, q2, β', by rw [q3], cells_same hρ hcs l1, ?_, q6.to_below⟩
    rcases l2 rfl with h | h
    · exact h.elim
    · exact h
/-- A law with one slice: elements (by whatever proof), none, and a nil slice. -/
theorem pays_slice_arr {okF : FuncId → Bool} {sums : Sums} {keep : FuncId → Nat → List Nat} {fuel n : Nat} {F : Nat → Nat → List Int → Int} (tabs : Tabs) (hd : (tabs.map (·.1)).Nodup) (hm : P.follows .mixedOrders = true) (hok : ∀ f, okF f = true → ∀ as w, (callFunc f as).run P w = .ok (.enter f as) w)
    {f : FuncId} {hs : List Ph} (h1 : phOne hs = true) (ht : TabsIn tabs w) (hsum : ∀ ns A, SumsOk P (envA F ns A) w (fun _ => False) sums)
    {ns : List Int} {ss : List Value} (hns : phFits hs ns) (hlen : ns.length = phSize hs) (hss : slFits w hs ss)
    (t1 : ∀ (b off len cap : Nat) (A : Nat → Nat → Int → Int), ArrIn w (phKs hs) b off len cap A → cap ≤ maxLen → Calls P f (phVals hs ns [.slice (some ⟨b, off, none⟩) len cap]).toArray w fun e w' => e = .returned (.bool true) ∧ Below w.heap.size w w')
    (t2 : (callF P (tabGl tabs 0) okF sums keep fuel n f (phArgs tabs.length (phSize hs) (some (inpNo tabs.length (phKs hs).length (phSize hs))) hs 0) (noHp tabs) (phFacts hs 0)).all isTrueF = true)
    (t3 : (callF P (tabGl tabs 0) okF sums keep fuel n f (phArgs tabs.length (phSize hs) (some rawNil) hs 0) (noHp tabs) (phFacts hs 0)).all isTrueF = true) :
    Calls P f (phVals hs ns ss).toArray w fun e w' => e = .returned (.bool true) ∧ Below w.heap.size w w' := by
  obtain ⟨hz, hks, S, hS, hget⟩ := phOne_spec h1 hss
  have hvals : phVals hs ns ss = phVals hs ns [S] := by
    have key : ∀ {hs : List Ph} {ns : List Int} {ss : List Value}, phOne hs = true → (∀ j, j < (hs.filter fun p => match p with | .sh _ => false | .sl _ => true).length → ss[j]? = some S) → phVals hs ns ss = phVals hs ns [S] := fun {hs} => by
      induction hs with
      | nil => intro ns ss h; cases h
      | cons p l ih =>
        intro ns ss h hg
        cases p with
        | sh q => simp only [phVals]; rw [ih (by simpa [phOne] using h) (fun j hj => hg j (by simpa using hj))]
        | sl ks =>
          have h0 := hg 0 (by simp)
          cases ss with
          | nil => simp at h0
          | cons s ss =>
            simp only [List.getElem?_cons_zero, Option.some.injEq] at h0
            subst h0
            simp only [phVals, List.headD_cons, List.tail_cons]
            congr 1
            have hno : ∀ {l : List Ph} {ns : List Int} {a b : List Value}, (∀ p ∈ l, ∀ ks, p ≠ .sl ks) → phVals l ns a = phVals l ns b := fun {l} => by
              induction l with
              | nil => intros; rfl
              | cons q l ih2 =>
                intro ns a b hq
                cases q with
                | sh _ => simp only [phVals]; rw [ih2 fun p hp => hq p (List.mem_cons_of_mem _ hp)]
                | sl ks => exact (hq _ (List.mem_cons_self ..) ks rfl).elim
            simp only [phOne, Bool.and_eq_true] at h
            exact hno (phOne_rest h.2)
    exact key h1 hget
  have hT := tab_heap hd ht (fun _ => False)
  have hgl : ∀ {bv : Nat × Nat}, GlOk (tabGl tabs 0) (upd (tabB tabs) tabs.length bv) (tabs.length + 1) := fun {bv} => tab_gl (fun j p hj => by
      have hjl := (List.getElem?_eq_some_iff.1 hj).1
      have : upd (tabB tabs) tabs.length bv (0 + j) = tabB tabs j := by rw [Nat.zero_add]; exact upd_ext _ _ _ j hjl
      rw [this]; simp [tabB, hj]) (by omega)
  have no : ∀ (raw : SV) (bv : Nat × Nat) (len cap : Int) (A : Nat → Nat → Int → Int), raw.ev (envA F (ns ++ [len, cap]) A) (upd (tabB tabs) tabs.length bv) = S → raw.ok (envA F (ns ++ [len, cap]) A) (tabs.length + 1) →
      (callF P (tabGl tabs 0) okF sums keep fuel n f (phArgs tabs.length (phSize hs) (some raw) hs 0) (noHp tabs) (phFacts hs 0)).all isTrueF = true →
      Calls P f (phVals hs ns ss).toArray w fun e w' => e = .returned (.bool true) ∧ Below w.heap.size w w' := fun raw bv len cap A hev hrk tr => by
    obtain ⟨a, b⟩ := ph_append (hs := hs) (ms := [len, cap]) (ss := ss) hlen
    have g2 := b.2 hns
    obtain ⟨p1, p2⟩ := phArgs_spec (F := F) (A := A) (n := tabs.length + 1) (k := tabs.length) (m := phSize hs) (raw := some raw) (ks := phKs hs) hev hrk (hs := hs) (i := 0) (ss := ss) g2 hks hget
    rw [List.drop_zero, a] at p1
    rw [← p1]
    exact pays_heap (hp := noHp tabs) hm hok ((hT (envA F (ns ++ [len, cap]) A)).pushRo (b := .gone) rfl trivial trivial (fun h => by cases h)) hgl (phFacts_ok g2) (hsum _ _) p2 (T.all_holds tr)
  have hv2 : ∀ (len cap : Int), (ns ++ [len, cap]).getD (phSize hs + 1) 0 = cap := fun len cap => by rw [← hlen]; simp
  rcases ArrIn.of_in hS with hS | ⟨b, off, cap, hS, hmax⟩ | ⟨b, off, len, cap, A, hS, hA, hmax⟩
  · exact no rawNil (0, 0) 0 0 (fun _ _ _ => 0) hS.symm trivial t3
  · refine no (inpNo tabs.length (phKs hs).length (phSize hs)) (b, off) 0 cap (fun _ _ _ => 0) ?_ ⟨Nat.lt_succ_self _, (show (Lit.int .i64 0).wf = true by decide), Int.le_refl _, ?_, by simp [E.ev]⟩ t2
    · rw [hS]
      simp only [inpNo, SV.ev, upd_same, E.ev, envA, hv2]
      simp
    · simp only [E.ev, envA, hv2]
      exact Int.natCast_nonneg _
  · rw [hvals, hS]
    exact t1 b off len cap A hA hmax
end
end Go.Proofs.YthbfjnmdjehljaaDoor.SX
