/- The executor: loops within loops, by templates; of no program. -/
import Derived.Test.YtbjficjcgpgcbaaDoorMg
namespace Go.Proofs.YtbjficjcgpgcbaaDoor.SX
open Go Go.RowKit
set_option linter.unusedVariables false
set_option linter.unusedSimpArgs false

/-! ### Templates with three measures, the first one first -/
structure TmN where
  τ : Tm
  m1 : E
  m2 : E
  m3 : E
  rs : List Rule
structure CutN where
  p : Path
  ts : List TmN
def ltF (fs : Fs) (a b : E) : Bool := decideE fs (.bin .lt .i64 a b) == some true
def lexF (fs : Fs) (σ : Nat → E) (t' t : TmN) : Bool := ltF fs (t'.m1.sub σ) t.m1 || (eqF fs (t'.m1.sub σ) t.m1 && (ltF fs (t'.m2.sub σ) t.m2 || (eqF fs (t'.m2.sub σ) t.m2 && ltF fs (t'.m3.sub σ) t.m3)))
def nonnegF (fs : Fs) (e : E) : Bool := decideE fs (.bin .lt .i64 e (.lit 0)) == some false
/-- A look at the first values of a template: most do not fit there. -/
def SV.quick : SV → SV → Bool
  | .int _ (.lit a), .int _ (.lit b) => decide (a = b)
  | .slice _ _ l _, .slice _ _ m _ => Nat.beq l m
  | .slice _ _ _ _, .raw _ => false
  | .raw _, .slice _ _ _ _ => false
  | _, _ => true
def Tm.quick (τ : Tm) (st : St) : Bool :=
  match τ.live with
  | (i, s) :: (j, t) :: _ => SV.quick s (st.tmps i) && SV.quick t (st.tmps j)
  | _ => true
/-- A round: back at the loop, at another one, or at the end. -/
def stepN (P : Program) (gl : Gl) (call : Caller) (keep : Nat → List Nat) (fuel : Nat) (C : Code) (p : Path) (b : Code) (st : St) : T Sp :=
  (execP P gl call keep fuel b st).bind fun s => match s with
    | .loop p' st' => .ok (.loop (p ++ 0 :: p') st')
    | .done r => match r.x with
      | .normal => .ok (.loop p r.st)
      | _ => resumeP P gl call keep fuel C p r
def leafOkN (gl : Gl) (cuts : List CutN) (endOk : Rs → Bool) (K : Nat) (rs : List Rule) (less : Fs → (Nat → E) → TmN → Bool) : Sp → Bool
  | .done r => endOk ⟨r.x, withR rs r.st⟩ || noWay (addRules r.st.facts rs)
  | .loop p st => (cuts.any fun c => (c.p == p) && c.ts.any fun t => t.τ.quick st && fitR gl K t.τ (withR rs st) && less (withR rs st).facts (t.τ.solve (withR rs st)) t) || noWay (addRules st.facts rs)
def roundOkN (P : Program) (gl : Gl) (call : Caller) (keep : Nat → List Nat) (fuel : Nat) (cuts : List CutN) (endOk : Rs → Bool) (K : Nat) (C : Code) (p : Fs) (c : CutN) (t : TmN) (g : Nat → Value) : Bool :=
  match bodyAt C c.p with
  | some b => (nonnegF (t.τ.stP g p).facts t.m1 && nonnegF (t.τ.stP g p).facts t.m2 && nonnegF (t.τ.stP g p).facts t.m3) && (stepN P gl call keep fuel C c.p b (t.τ.stP g p)).all (leafOkN gl cuts endOk K t.rs (fun fs σ t' => lexF fs σ t' t))
  | none => false
section
variable {P : Program} {ρ : Env} {w0 : World} {M : Nat → Prop} {gl : Gl} {call : Caller} {keep : Nat → List Nat} {fuel : Nat} {cuts : List CutN} {endOk : Rs → Bool} {C : Code} {Q : Exit → Act → World → Prop} {K : Nat}
theorem bodyAt_in : ∀ (C : Code) (p : Path) {b : Code} (p' : Path), bodyAt C p = some b → bodyAt C (p ++ 0 :: p') = bodyAt b p'
  | .seq x y, i :: p, b, p', h => by
    unfold bodyAt at h
    show bodyAt (.seq x y) (i :: (p ++ 0 :: p')) = _
    rw [show bodyAt (.seq x y) (i :: (p ++ 0 :: p')) = if i = 0 then bodyAt x (p ++ 0 :: p') else bodyAt y (p ++ 0 :: p') from rfl]
    split at h
    · rename_i hi; rw [if_pos hi]; exact bodyAt_in x p p' h
    · rename_i hi; rw [if_neg hi]; exact bodyAt_in y p p' h
  | .cond c x y, i :: p, b, p', h => by
    unfold bodyAt at h
    rw [show bodyAt (.cond c x y) (i :: p ++ 0 :: p') = if i = 0 then bodyAt x (p ++ 0 :: p') else bodyAt y (p ++ 0 :: p') from rfl]
    split at h
    · rename_i hi; rw [if_pos hi]; exact bodyAt_in x p p' h
    · rename_i hi; rw [if_neg hi]; exact bodyAt_in y p p' h
  | .block id c, _ :: p, b, p', h => bodyAt_in c p p' h
  | .scope c, _ :: p, b, p', h => bodyAt_in c p p' h
  | .loop c, _ :: p, b, p', h => bodyAt_in c p p' h
  | .loop c, [], b, p', h => by
    simp only [bodyAt, Option.some.injEq] at h
    subst h
    rfl
  | .seq _ _, [], _, _, h => by cases h
  | .cond _ _ _, [], _, _, h => by cases h
  | .block _ _, [], _, _, h => by cases h
  | .scope _, [], _, _, h => by cases h
  | .skip, _, _, _, h => by simp [bodyAt] at h
  | .label _, _, _, _, h => by simp [bodyAt] at h
  | .exit _, _, _, _, h => by simp [bodyAt] at h
  | .ret, _, _, _, h => by simp [bodyAt] at h
  | .region _ _ _, _, _, _, h => by simp [bodyAt] at h
  | .rangeFunc _ _ _ _, _, _, _, h => by simp [bodyAt] at h
  | .goto _, _, _, _, h => by simp [bodyAt] at h
  | .refuse _, _, _, _, h => by simp [bodyAt] at h
theorem postAt_in : ∀ (C : Code) (p : Path) {b : Code} (p' : Path) (Q : Exit → Act → World → Prop), bodyAt C p = some b → postAt P C (p ++ 0 :: p') Q = postAt P b p' (Exit.then (More P b (postAt P C p Q)) (postAt P C p Q))
  | .seq x y, i :: p, b, p', Q, h => by
    unfold bodyAt at h
    by_cases hi : i = 0
    · rw [if_pos hi] at h
      have := postAt_in x p p' (Exit.then (y.wp P Q) Q) h
      simp only [List.cons_append, postAt, if_pos hi, this]
    · rw [if_neg hi] at h
      have := postAt_in y p p' Q h
      simp only [List.cons_append, postAt, if_neg hi, this]
  | .cond c x y, i :: p, b, p', Q, h => by
    unfold bodyAt at h
    by_cases hi : i = 0
    · rw [if_pos hi] at h
      have := postAt_in x p p' Q h
      simp only [List.cons_append, postAt, if_pos hi, this]
    · rw [if_neg hi] at h
      have := postAt_in y p p' Q h
      simp only [List.cons_append, postAt, if_neg hi, this]
  | .block id c, _ :: p, b, p', Q, h => postAt_in c p p' (Exit.inBlock id Q) h
  | .scope c, _ :: p, b, p', Q, h => postAt_in c p p' (Exit.noGoto Q) h
  | .loop c, _ :: p, b, p', Q, h => postAt_in c p p' (Exit.then (More P c Q) Q) h
  | .loop c, [], b, p', Q, h => by
    simp only [bodyAt, Option.some.injEq] at h
    subst h
    rfl
  | .seq _ _, [], _, _, _, h => by cases h
  | .cond _ _ _, [], _, _, _, h => by cases h
  | .block _ _, [], _, _, _, h => by cases h
  | .scope _, [], _, _, _, h => by cases h
  | .skip, _, _, _, _, h => by simp [bodyAt] at h
  | .label _, _, _, _, _, h => by simp [bodyAt] at h
  | .exit _, _, _, _, _, h => by simp [bodyAt] at h
  | .ret, _, _, _, _, h => by simp [bodyAt] at h
  | .region _ _ _, _, _, _, _, h => by simp [bodyAt] at h
  | .rangeFunc _ _ _ _, _, _, _, _, h => by simp [bodyAt] at h
  | .goto _, _, _, _, _, h => by simp [bodyAt] at h
  | .refuse _, _, _, _, _, h => by simp [bodyAt] at h
def mea3 (ρ : Env) (t : TmN) : Nat × Nat × Nat := ((t.m1.ev ρ).toNat, (t.m2.ev ρ).toNat, (t.m3.ev ρ).toNat)
abbrev Lex3 : Nat × Nat × Nat → Nat × Nat × Nat → Prop := Prod.Lex (· < ·) (Prod.Lex (· < ·) (· < ·))
theorem lex3_wf : WellFounded Lex3 := (Prod.lex ⟨_, Nat.lt_wfRel.wf⟩ (Prod.lex ⟨_, Nat.lt_wfRel.wf⟩ ⟨_, Nat.lt_wfRel.wf⟩)).wf
theorem ltF_spec {fs : Fs} (hf : FsOk ρ fs) {a b : E} (h : ltF fs a b = true) : a.ev ρ < b.ev ρ := lt_of_decide hf (by unfold ltF at h; simpa using h)
theorem nonnegF_spec {fs : Fs} (hf : FsOk ρ fs) {a : E} (h : nonnegF fs a = true) : 0 ≤ a.ev ρ := ge_of_decide (b := .lit 0) hf (by unfold nonnegF at h; simpa using h)
theorem lexF_spec {fs : Fs} (hf : FsOk ρ fs) {σ : Nat → E} {t' t : TmN} (h : lexF fs σ t' t = true) (h1 : 0 ≤ t'.m1.ev (envSub ρ σ)) (h2 : 0 ≤ t'.m2.ev (envSub ρ σ)) (h3 : 0 ≤ t'.m3.ev (envSub ρ σ)) : Lex3 (mea3 (envSub ρ σ) t') (mea3 ρ t) := by
  simp only [lexF, Bool.or_eq_true, Bool.and_eq_true] at h
  unfold mea3
  rcases h with h | ⟨h, h'⟩
  · have := ltF_spec hf h
    rw [E.sub_ev] at this
    exact .left _ _ (by omega)
  · have e1 := eqF_spec hf h
    rw [E.sub_ev] at e1
    rw [e1]
    refine .right _ ?_
    rcases h' with h' | ⟨h', h''⟩
    · have := ltF_spec hf h'
      rw [E.sub_ev] at this
      exact .left _ _ (by omega)
    · have e2 := eqF_spec hf h'
      rw [E.sub_ev] at e2
      rw [e2]
      refine .right _ ?_
      have := ltF_spec hf h''
      rw [E.sub_ev] at this
      omega
theorem loopsN_run {ax : Fs} (hax : ∀ ρ', SameK K ρ ρ' → FsOk ρ' ax) (hc : ∀ ρ', SameK K ρ ρ' → CallOk P ρ' w0 M gl call) (hm : P.follows .mixedOrders = true)
    (hend : ∀ ρ' (β : Bm) (r : Rs) (a : Act) (w : World), SameK K ρ ρ' → Conc ρ' w0 M gl β r.st a w → endOk r = true → Q r.x.to a w)
    (hrule : ∀ ρ', SameK K ρ ρ' → ∀ c ∈ cuts, ∀ t ∈ c.ts, ∀ r ∈ t.rs, RuleOk ρ' r)
    (hr : ∀ c ∈ cuts, ∀ t ∈ c.ts, ∃ ct : CT, ∀ g, ct.all fun p => roundOkN P gl call keep fuel cuts endOk K C (p ++ ax) c t g = true) :
    ∀ (m : Nat × Nat × Nat) (ρ' : Env) (β : Bm) (c : CutN) (t : TmN) (g : Nat → Value) (a : Act) (w : World), SameK K ρ ρ' → c ∈ cuts → t ∈ c.ts → Conc ρ' w0 M gl β (t.τ.st g) a w → mea3 ρ' t = m → LoopAt P C c.p Q a w := by
  intro m
  induction m using lex3_wf.induction with
  | _ m ih =>
    intro ρ' β c t g a w hρ hcm ht hst hm'
    -- measures are no negative numbers
    have pos : ∀ (ρ'' : Env) (c : CutN) (t : TmN) (g : Nat → Value) (β : Bm) (a : Act) (w : World), SameK K ρ ρ'' → c ∈ cuts → t ∈ c.ts → Conc ρ'' w0 M gl β (t.τ.st g) a w → 0 ≤ t.m1.ev ρ'' ∧ 0 ≤ t.m2.ev ρ'' ∧ 0 ≤ t.m3.ev ρ'' := fun ρ'' c t g β a w hρ'' hcm ht hst => by
      obtain ⟨ct1, hct1⟩ := hr c hcm t ht
      obtain ⟨p1, hp1, h1⟩ := CT.some ρ'' (hct1 g)
      unfold roundOkN at h1
      split at h1
      · simp only [Bool.and_eq_true] at h1
        have hf : FsOk ρ'' (t.τ.stP g (p1 ++ ax)).facts := fsOk_app (fsOk_app hp1 (hax ρ'' hρ'')) hst.facts
        exact ⟨nonnegF_spec hf h1.1.1.1, nonnegF_spec hf h1.1.1.2, nonnegF_spec hf h1.1.2⟩
      · cases h1
    -- on from a place where a template fits
    have go : ∀ (β' : Bm) (p : Path) (st' : St) (a' : Act) (w' : World), Conc ρ' w0 M gl β' st' a' w' → leafOkN gl cuts endOk K t.rs (fun fs σ t' => lexF fs σ t' t) (.loop p st') = true → LoopAt P C p Q a' w' := fun β' p st' a' w' hc' hs => by
      have hc3 := withR_conc hc' (hrule ρ' hρ c hcm t ht)
      simp only [leafOkN, Bool.or_eq_true] at hs
      rcases hs with hs | hs
      rotate_left
      · exact (noWay_spec hc3.facts hs).elim
      simp only [List.any_eq_true, Bool.and_eq_true] at hs
      obtain ⟨c', hcm', hp', t', ht', ⟨_, hfit'⟩, hless⟩ := hs
      obtain rfl : c'.p = p := by simpa using hp'
      unfold fitR at hfit'
      rw [Bool.and_eq_true] at hfit'
      have hc2 := Tm.fit_run hc3 hfit'.1
      have hρ2 := hρ.sub hc3.facts hfit'.2
      obtain ⟨q1, q2, q3⟩ := pos _ c' t' _ _ a' w' hρ2 hcm' ht' hc2
      have hl := lexF_spec hc3.facts hless q1 q2 q3
      rw [hm'] at hl
      exact ih _ hl _ _ c' t' _ a' w' hρ2 hcm' ht' hc2 rfl
    obtain ⟨ct1, hct1⟩ := hr c hcm t ht
    obtain ⟨p1, hp1, h1⟩ := CT.some ρ' (hct1 g)
    replace hst : Conc ρ' w0 M gl β (t.τ.stP g (p1 ++ ax)) a w := hst.facts_to (fsOk_app (fsOk_app hp1 (hax ρ' hρ)) hst.facts)
    unfold roundOkN at h1
    split at h1
    rotate_left
    · cases h1
    rename_i b hb
    rw [Bool.and_eq_true] at h1
    refine ⟨b, hb, more_step ?_⟩
    have h2 := T.all_holds (ρ := ρ') h1.2
    unfold stepN at h2
    rw [T.holds_bind] at h2
    refine execP_run (hc ρ' hρ) hm b β _ a w _ hst (T.holds_mono (fun s hs => ?_) h2)
    cases s with
    | loop p' st' =>
      intro β' a' w' hx hl hss hc'
      obtain ⟨b', hb', hw'⟩ := go β' (c.p ++ 0 :: p') st' a' w' hc' hs
      rw [bodyAt_in C c.p p' hb] at hb'
      rw [postAt_in C c.p p' Q hb] at hw'
      exact ⟨b', hb', hw'⟩
    | done r =>
      obtain ⟨x, st'⟩ := r
      have fwd : ∀ x', x' = x → x' ≠ .normal → T.holds ρ' (resumeP P gl call keep fuel C c.p ⟨x', st'⟩) (fun s => leafOkN gl cuts endOk K t.rs (fun fs σ t' => lexF fs σ t' t) s = true) → Ends ρ' w0 M gl β (t.τ.stP g (p1 ++ ax)).hp (Exit.then (More P b (postAt P C c.p Q)) (postAt P C c.p Q)) ⟨x', st'⟩ := fun x' hx' hne hs => by
        intro β' a' w' hx hl hss hc'
        have := resumeP_run (hc ρ' hρ) hm C c.p β' ⟨x', st'⟩ a' w' Q hc' (T.holds_mono (fun s' hs' => ?_) hs)
        · cases x' with
          | normal => exact absurd rfl hne
          | exit id => exact this
          | ret => exact this
        · cases s' with
          | done r' =>
            intro β2 a2 w2 _ _ _ hc2
            have hs2 : (endOk ⟨r'.x, withR t.rs r'.st⟩ || noWay (addRules r'.st.facts t.rs)) = true := hs'
            have hc3 := withR_conc hc2 (hrule ρ' hρ c hcm t ht)
            rw [Bool.or_eq_true] at hs2
            rcases hs2 with hs2 | hs2
            · exact hend ρ' β2 ⟨r'.x, withR t.rs r'.st⟩ a2 w2 hρ hc3 hs2
            · exact (noWay_spec hc3.facts hs2).elim
          | loop p' st2 => exact fun β2 a2 w2 _ _ _ hc2 => go β2 p' st2 a2 w2 hc2 hs'
      cases x with
      | normal =>
        intro β' a' w' hx hl hss hc'
        obtain ⟨b', hb', hw'⟩ := go β' c.p st' a' w' hc' hs
        obtain rfl : b = b' := Option.some.inj (hb.symm.trans hb')
        exact hw'
      | exit id => exact fwd (.exit id) rfl (by intro h; cases h) hs
      | ret => exact fwd .ret rfl (by intro h; cases h) hs
theorem codeN_run {ax : Fs} (hax : ∀ ρ', SameK K ρ ρ' → FsOk ρ' ax) (hc : ∀ ρ', SameK K ρ ρ' → CallOk P ρ' w0 M gl call) (hm : P.follows .mixedOrders = true)
    (hend : ∀ ρ' (β : Bm) (r : Rs) (a : Act) (w : World), SameK K ρ ρ' → Conc ρ' w0 M gl β r.st a w → endOk r = true → Q r.x.to a w)
    (hrule : ∀ ρ', SameK K ρ ρ' → ∀ c ∈ cuts, ∀ t ∈ c.ts, ∀ r ∈ t.rs, RuleOk ρ' r)
    (hr : ∀ c ∈ cuts, ∀ t ∈ c.ts, ∃ ct : CT, ∀ g, ct.all fun p => roundOkN P gl call keep fuel cuts endOk K C (p ++ ax) c t g = true) {rs0 : List Rule} (hr0 : ∀ r ∈ rs0, RuleOk ρ r) {β : Bm} {st : St} {a : Act} {w : World} (hst : Conc ρ w0 M gl β st a w)
    (h : (execP P gl call keep fuel C st).holds ρ fun s => leafOkN gl cuts endOk K rs0 (fun _ _ _ => true) s = true) : C.wp P Q a w := by
  refine execP_run (hc ρ (SameK.refl ρ)) hm C β st a w Q hst (T.holds_mono (fun s hs => ?_) h)
  cases s with
  | done r =>
    intro β2 a2 w2 _ _ _ hc2
    have hs2 : (endOk ⟨r.x, withR rs0 r.st⟩ || noWay (addRules r.st.facts rs0)) = true := hs
    have hc3 := withR_conc hc2 hr0
    rw [Bool.or_eq_true] at hs2
    rcases hs2 with hs2 | hs2
    · exact hend ρ β2 ⟨r.x, withR rs0 r.st⟩ a2 w2 (SameK.refl ρ) hc3 hs2
    · exact (noWay_spec hc3.facts hs2).elim
  | loop p st' =>
    intro β2 a2 w2 _ _ _ hc2
    have hc3 := withR_conc hc2 hr0
    simp only [leafOkN, Bool.or_eq_true] at hs
    rcases hs with hs | hs
    rotate_left
    · exact (noWay_spec hc3.facts hs).elim
    simp only [List.any_eq_true, Bool.and_eq_true] at hs
    obtain ⟨c', hcm', hp', t', ht', ⟨_, hfit'⟩, _⟩ := hs
    obtain rfl : c'.p = p := by simpa using hp'
    unfold fitR at hfit'
    rw [Bool.and_eq_true] at hfit'
    exact loopsN_run hax hc hm hend hrule hr _ _ _ c' t' _ a2 w2 ((SameK.refl ρ).sub hc3.facts hfit'.2) hcm' ht' (Tm.fit_run hc3 hfit'.1) rfl
/-- A function whose ways all end as 'endOk' says. -/
theorem fn_runN {ax : Fs} (hax : ∀ ρ', SameK K ρ ρ' → FsOk ρ' ax) {R : Ending → World → Prop} {w : World} {β : Bm} {hp : Hp} (hc : ∀ ρ', SameK K ρ ρ' → CallOk P ρ' w0 M gl call) (hm : P.follows .mixedOrders = true) {f : FuncId} {fn : Func} (hfn : P.funcs[f]? = some fn) (hbd : fn.body = some C) {args : List SV} {fs0 : Fs} (hh : Heap ρ w0 M β hp w) (hg : GlOk gl β hp.n) (hfs : FsOk ρ fs0)
    (hargs : SV.oks ρ hp.n args)
    (hrule : ∀ ρ', SameK K ρ ρ' → ∀ c ∈ cuts, ∀ t ∈ c.ts, ∀ r ∈ t.rs, RuleOk ρ' r)
    (hr : ∀ c ∈ cuts, ∀ t ∈ c.ts, ∃ ct : CT, ∀ g, ct.all fun p => roundOkN P gl call keep fuel cuts endOk K C (p ++ ax) c t g = true) {rs0 : List Rule} (hr0 : ∀ r ∈ rs0, RuleOk ρ r)
    (h : (execP P gl call keep fuel C (entrySt fn args hp fs0)).all (leafOkN gl cuts endOk K rs0 (fun _ _ _ => true)) = true)
    (hend : ∀ ρ' (β' : Bm) (r : Rs) (a : Act) (w' : World), SameK K ρ ρ' → Conc ρ' w0 M gl β' r.st a w' → endOk r = true → (∀ id, r.x ≠ .exit id) ∧ ∃ vs, resultsS P r.st fn.results.toList = some vs ∧ R (.returned ((packS vs).ev ρ' β')) w') :
    Calls P f (SV.evs ρ β args).toArray w R := by
  refine calls_of_wp hfn hbd (codeN_run hax hc hm ?_ hrule hr hr0 (entry_conc hh hfs hargs hg) (T.all_holds h))
  intro ρ' β' r a w' hρ hst he
  obtain ⟨h1, vs, hvs, hR⟩ := hend ρ' β' r a w' hρ hst he
  obtain ⟨x, st⟩ := r
  obtain ⟨r1, r2⟩ := results_run hst hvs
  cases x with
  | exit id => exact absurd rfl (h1 id)
  | normal => exact ⟨hst.defers, _, r1, hR⟩
  | ret => exact ⟨hst.defers, _, r1, hR⟩
end
section
variable {P : Program} {w : World}
/-- A law with a slice of elements, whose loops (within loops) are cut; 'ax' (of the first variables, and names) is known all along. -/
theorem pays_arr_cutN {ax : Fs} {call : Caller} {keep : Nat → List Nat} {fuel : Nat} {cuts : List CutN} {C : Code} {b off len cap : Nat} {A : Nat → Nat → Int → Int} (tabs : Tabs) (hd : (tabs.map (·.1)).Nodup) (ht : TabsIn tabs w) (hm : P.follows .mixedOrders = true) (F : Nat → Nat → List Int → Int)
    {f : FuncId} {fn : Func} (hfn : P.funcs[f]? = some fn) (hbd : fn.body = some C) {hs : List Ph} (h1 : phOne hs = true) (h : ArrIn w (phKs hs) b off len cap A) {ns : List Int} (hns : phFits hs ns) (hlen : ns.length = phSize hs) {p : Fs} (hp : FsOk (envA F (ns ++ [(len : Int), (cap : Int)]) A) p)
    (hax : FsOk (envA F (ns ++ [(len : Int), (cap : Int)]) A) ax) (hup : (ax.all fun q => q.1.upto (phSize hs + 2)) = true)
    (hc : ∀ ρ', SameK (phSize hs + 2) (envA F (ns ++ [(len : Int), (cap : Int)]) A) ρ' → CallOk P ρ' w (fun _ => False) (tabGl tabs 0) call)
    (hrule : ∀ ρ', SameK (phSize hs + 2) (envA F (ns ++ [(len : Int), (cap : Int)]) A) ρ' → ∀ c ∈ cuts, ∀ t ∈ c.ts, ∀ r ∈ t.rs, RuleOk ρ' r)
    (hr : ∀ c ∈ cuts, ∀ t ∈ c.ts, ∃ ct : CT, ∀ g, ct.all fun p => roundOkN P (tabGl tabs 0) call keep fuel cuts (lawEnd P fn) (phSize hs + 2) C (p ++ ax) c t g = true) {rs0 : List Rule} (hr0 : ∀ r ∈ rs0, RuleOk (envA F (ns ++ [(len : Int), (cap : Int)]) A) r)
    (he : (execP P (tabGl tabs 0) call keep fuel C (entrySt fn (phArgs tabs.length (phSize hs) none hs 0) (arrHp tabs (phKs hs) (phSize hs)) ((p ++ ax) ++ (lenU (phSize hs) ++ phFacts hs 0)))).all (leafOkN (tabGl tabs 0) cuts (lawEnd P fn) (phSize hs + 2) rs0 (fun _ _ _ => true)) = true) :
    Calls P f (phVals hs ns [.slice (some ⟨b, off, none⟩) len cap]).toArray w fun e w' => e = .returned (.bool true) ∧ Below w.heap.size w w' := by
  have hv1 : (ns ++ [(len : Int), (cap : Int)]).getD (phSize hs) 0 = len := by rw [← hlen]; simp
  have hv2 : (ns ++ [(len : Int), (cap : Int)]).getD (phSize hs + 1) 0 = cap := by rw [← hlen]; simp
  obtain ⟨a1, a2⟩ := ph_append (hs := hs) (ms := [(len : Int), (cap : Int)]) (ss := [.slice (some ⟨b, off, none⟩) len cap]) hlen
  have hf := a2.2 hns
  obtain ⟨s1, s2, s3, s4, s5⟩ := arr_start tabs hd ht h F (ns ++ [(len : Int), (cap : Int)]) (m := phSize hs) hv1 hv2
  obtain ⟨p1, p2⟩ := phArgs_spec (F := F) (A := A) (n := tabs.length + 1) (k := tabs.length) (m := phSize hs) (raw := none) (ks := phKs hs) s5 s4 (hs := hs) (i := 0) (ss := [.slice (some ⟨b, off, none⟩) len cap]) hf (phOne_ks h1) (fun j hj => by
    have e1 := phOne_one h1
    have : j < 1 := e1 ▸ hj
    obtain rfl : j = 0 := by omega
    rfl)
  rw [List.drop_zero, a1] at p1
  rw [← p1]
  refine fn_runN (ax := ax) (fun ρ' hρ q hq => ?_) hc hm hfn hbd s1 s2 (fsOk_app (fsOk_app hp hax) (fsOk_app s3 (phFacts_ok hf))) p2 hrule hr hr0 he fun ρ' β' r a w' hρ hst hend => lawEnd_spec hst hend
  rw [E.ev_same hρ q.1 (List.all_eq_true.1 hup q hq)]
  exact hax q hq
end
end Go.Proofs.YtbjficjcgpgcbaaDoor.SX
