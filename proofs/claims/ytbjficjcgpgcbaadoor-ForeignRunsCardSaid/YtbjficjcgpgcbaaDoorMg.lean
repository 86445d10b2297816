/- The executor: contracts with memory, rules, slices that came in; of no program. -/
import Derived.Test.YtbjficjcgpgcbaaDoorMf
namespace Go.Proofs.YtbjficjcgpgcbaaDoor.SX
open Go Go.RowKit
set_option linter.unusedVariables false
set_option linter.unusedSimpArgs false

/-! ### Rules: what follows of what is known, by a proof in Lean -/
/-- A fact, in canonical form. -/
def normF (fs : Fs) : E → E
  | .bin .eq k a b => .bin .eq k (canon fs (a.deep fs)) (canon fs (b.deep fs))
  | c => c.deep fs
def learnAll : Fs → Fs → Fs
  | [], fs => fs
  | (c, b) :: l, fs => match normF fs c with
    | .app f j a => (.app f j a, b) :: learnAll l fs
    | .bin .eq k (.app f j a) e => (.bin .eq k (.app f j a) e, b) :: learnAll l fs
    | c' => learn (learnAll l fs) c' b
structure Rule where
  prem : Fs
  con : Fs
def knows (fs : Fs) : Fs → Bool
  | [] => true
  | (c, b) :: l => (decideD fs c == some b) && knows fs l
def addRules : Fs → List Rule → Fs
  | fs, [] => fs
  | fs, r :: l => match knows fs r.prem with
    | true => addRules (learnAll r.con fs) l
    | false => addRules fs l
def RuleOk (ρ : Env) (r : Rule) : Prop := FsOk ρ r.prem → FsOk ρ r.con
section
variable {ρ : Env}
theorem normF_ev {fs : Fs} (hf : FsOk ρ fs) (c : E) : (normF fs c).ev ρ = c.ev ρ := by
  unfold normF
  split
  · simp only [E.ev, canon_ev hf, E.deep_ev hf]
  · exact E.deep_ev hf _
theorem learnAll_ok : ∀ {l fs : Fs}, FsOk ρ l → FsOk ρ fs → FsOk ρ (learnAll l fs)
  | [], fs, _, h => h
  | (c, b) :: l, fs, hl, h => by
    have ih := learnAll_ok (l := l) (fun p hp => hl p (List.mem_cons_of_mem _ hp)) h
    have h1 : c.ev ρ ≠ 0 ↔ b = true := hl (c, b) (List.mem_cons_self ..)
    have h2 : (normF fs c).ev ρ ≠ 0 ↔ b = true := by rw [normF_ev h]; exact h1
    have hc : ∀ x : E, normF fs c = x → FsOk ρ ((x, b) :: learnAll l fs) := fun x hx p hp => by
      rcases List.mem_cons.1 hp with rfl | hp
      · rw [hx] at h2; exact h2
      · exact ih p hp
    unfold learnAll
    split
    · rename_i hx; exact hc _ hx
    · rename_i hx; exact hc _ hx
    · rename_i hx; exact learn_ok ih h2
theorem knows_ok {fs : Fs} (hf : FsOk ρ fs) : ∀ {l : Fs}, knows fs l = true → FsOk ρ l
  | [], _ => fun p hp => by cases hp
  | (c, b) :: l, h => by
    simp only [knows, Bool.and_eq_true, beq_iff_eq] at h
    intro p hp
    rcases List.mem_cons.1 hp with rfl | hp
    · have := decideD_spec hf h.1
      show c.ev ρ ≠ 0 ↔ b = true
      rw [← this]
      simp
    · exact knows_ok hf h.2 p hp
theorem addRules_ok : ∀ {rs : List Rule} {fs : Fs}, FsOk ρ fs → (∀ r ∈ rs, RuleOk ρ r) → FsOk ρ (addRules fs rs)
  | [], fs, hf, _ => hf
  | r :: rs, fs, hf, h => by
    unfold addRules
    split
    · rename_i hk
      exact addRules_ok (learnAll_ok (h r (List.mem_cons_self ..) (knows_ok hf hk)) hf) fun r' hr' => h r' (List.mem_cons_of_mem _ hr')
    · exact addRules_ok hf fun r' hr' => h r' (List.mem_cons_of_mem _ hr')
end

/-! ### Calls by contracts -/
abbrev Spc := FuncId → List SV → Hp → Fs → Option Out
def SpecOk (P : Program) (ρ : Env) (w0 : World) (M : Nat → Prop) (gl : Gl) (sp : Spc) : Prop := ∀ (f : FuncId) (args : List SV) (hp : Hp) (fs : Fs) (o : Out), sp f args hp fs = some o →
  ∀ (β : Bm) (w : World), Heap ρ w0 M β hp w → FsOk ρ fs → SV.oks ρ hp.n args → GlOk gl β hp.n →
    Calls P f (SV.evs ρ β args).toArray w fun e w' => ∃ β', Ext hp.n β β' ∧ hp.n ≤ o.hp.n ∧ Stay hp o.hp ∧ Heap ρ w0 M β' o.hp w' ∧ FsOk ρ o.fs ∧ o.v.ok ρ o.hp.n ∧ e = .returned (o.v.ev ρ β')
def noSpec : Spc := fun _ _ _ _ => none
def sumSpec (sums : Sums) : Spc := fun f args hp fs => match sums f args with
  | some v0 => match sums f (canonL fs args) with
    | some v => some ⟨v, hp, fs⟩
    | none => some ⟨v0, hp, fs⟩
  | none => none
def orSpec (a b : Spc) : Spc := fun f args hp fs => match a f args hp fs with
  | some o => some o
  | none => b f args hp fs
def callG (P : Program) (gl : Gl) (okF : FuncId → Bool) (sp : Spc) (keep : FuncId → Nat → List Nat) (fuel : Nat) : Nat → Caller
  | 0, _, _, _, _ => .bad 150
  | n + 1, f, args, hp, fs =>
    if okF f then
      match sp f args hp fs with
      | some o => .ok o
      | none => match P.funcs[f]? with
        | some fn => match fn.body with
          | some c => (exec P gl (callG P gl okF sp keep fuel n) (keep f) fuel c { sz := args.length + (fn.ntmps - args.length), tmps := fun i => args.getD i undefS, hp := hp, facts := fs }).bind fun r => match r.x with
            | .exit _ => .bad 151
            | _ => match resultsS P r.st fn.results.toList with
              | some vs => .ok ⟨packS vs, r.st.hp, r.st.facts⟩
              | none => .bad 152
          | none => .bad 153
        | none => .bad 154
    else .bad 155
section
variable {P : Program} {ρ : Env} {w0 : World} {M : Nat → Prop} {gl : Gl} {w : World} {hp : Hp} {fs : Fs}
theorem noSpec_ok : SpecOk P ρ w0 M gl noSpec := fun _ _ _ _ _ h => by cases h
theorem sumSpec_ok {sums : Sums} (hsum : SumsOk P ρ w0 M sums) : SpecOk P ρ w0 M gl (sumSpec sums) := fun f args hp fs o h β w hh hf ha hg => by
  have fin : ∀ v : SV, o = ⟨v, hp, fs⟩ → (v.ok ρ hp.n ∧ ∀ w, Kept w0 M w → Calls P f (SV.evs ρ β args).toArray w fun e w' => e = .returned (v.ev ρ β) ∧ Below w.heap.size w w') → Calls P f (SV.evs ρ β args).toArray w fun e w' => ∃ β', Ext hp.n β β' ∧ hp.n ≤ o.hp.n ∧ Stay hp o.hp ∧ Heap ρ w0 M β' o.hp w' ∧ FsOk ρ o.fs ∧ o.v.ok ρ o.hp.n ∧ e = .returned (o.v.ev ρ β') := fun v ho hv => by
    subst ho
    exact (hv.2 w hh.kept).mono fun e w' ⟨he, hb⟩ => ⟨β, Ext.refl _ _, Nat.le_refl _, Stay.refl _, hh.below hb, hf, hv.1, he⟩
  unfold sumSpec at h
  split at h
  · rename_i v0 hv0
    split at h
    · rename_i v hv
      obtain ⟨c1, c2⟩ := canonL_spec hf β hp.n args
      have := hsum f _ v hv hp.n β (c2 ha)
      rw [c1] at this
      exact fin v (Option.some.inj h).symm this
    · exact fin v0 (Option.some.inj h).symm (hsum f args v0 hv0 hp.n β ha)
  · cases h
theorem orSpec_ok {a b : Spc} (h1 : SpecOk P ρ w0 M gl a) (h2 : SpecOk P ρ w0 M gl b) : SpecOk P ρ w0 M gl (orSpec a b) := fun f args hp fs o h => by
  unfold orSpec at h
  split at h
  · rename_i o' ho
    obtain rfl := Option.some.inj h
    exact h1 f args hp fs o' ho
  · exact h2 f args hp fs o h
theorem callG_run {okF : FuncId → Bool} {sp : Spc} {keep : FuncId → Nat → List Nat} {fuel : Nat} (hm : P.follows .mixedOrders = true) (hok : ∀ f, okF f = true → ∀ as w, (callFunc f as).run P w = .ok (.enter f as) w) (hsp : SpecOk P ρ w0 M gl sp) :
    ∀ n : Nat, CallOk P ρ w0 M gl (callG P gl okF sp keep fuel n)
  | 0 => fun f args hp fs β w K hh hf ha hg h => h.elim
  | n + 1 => fun f args hp fs β w K hh hf ha hg h => by
    unfold callG at h
    split at h
    · rename_i hof
      refine ⟨hok f hof, ?_⟩
      split at h
      · rename_i o ho
        refine (hsp f args hp fs o ho β w hh hf ha hg).mono fun e w' ⟨β', h1, h2, h3, h4, h5, h6, h7⟩ => ⟨_, h7, ?_⟩
        exact h β' w' h1 h2 h3 h4 h5 h6
      · split at h
        · rename_i fn hfn
          split at h
          · rename_i c hb
            unfold Goes at h
            rw [T.holds_bind] at h
            refine calls_of_wp hfn hb ?_
            refine exec_run (callG_run hm hok hsp n) hm c β _ _ w _ (entry_conc (fn := fn) hh hf ha hg) (T.holds_mono (fun r hr => ?_) h)
            obtain ⟨x, st'⟩ := r
            intro β' a' w' hx hl hs hc'
            cases x with
            | exit id => exact hr.elim
            | normal =>
              simp only at hr
              split at hr
              · rename_i vs hvs
                obtain ⟨r1, r2⟩ := results_run hc' hvs
                exact ⟨hc'.defers, _, r1, _, rfl, hr β' w' hx hl hs hc'.heap hc'.facts r2⟩
              · exact hr.elim
            | ret =>
              simp only at hr
              split at hr
              · rename_i vs hvs
                obtain ⟨r1, r2⟩ := results_run hc' hvs
                exact ⟨hc'.defers, _, r1, _, rfl, hr β' w' hx hl hs hc'.heap hc'.facts r2⟩
              · exact hr.elim
          · exact h.elim
        · exact h.elim
    · exact h.elim
end

/-! ### Loops: templates with their measures and rules; the first K variables stay -/
structure TmR where
  τ : Tm
  mea : E
  rs : List Rule
structure CutR where
  p : Path
  rank : Nat
  ts : List TmR
def SameK (K : Nat) (ρ ρ' : Env) : Prop := ρ'.fn = ρ.fn ∧ ρ'.arr = ρ.arr ∧ ∀ i, i < K → ρ'.v i = ρ.v i
def fixedOk (K : Nat) (fs : Fs) (σ : Nat → E) : Bool := (List.range K).all fun i => eqF fs (σ i) (.var i)
def withR (rs : List Rule) (st : St) : St := { st with facts := addRules st.facts rs }
def fitR (gl : Gl) (K : Nat) (τ : Tm) (st : St) : Bool := τ.fit gl (τ.solve st) st && fixedOk K st.facts (τ.solve st)
def leafOkR (gl : Gl) (cuts : List CutR) (endOk : Rs → Bool) (K : Nat) (rs : List Rule) (rk : Nat) : Sp → Bool
  | .done r => endOk ⟨r.x, withR rs r.st⟩ || noWay (addRules r.st.facts rs)
  | .loop p st => (cuts.any fun c => (c.p == p) && decide (c.rank < rk) && c.ts.any fun t => fitR gl K t.τ (withR rs st)) || noWay (addRules st.facts rs)
def backOkR (gl : Gl) (K : Nat) (c : CutR) (t : TmR) (st : St) : Bool :=
  (c.ts.any fun t' => fitR gl K t'.τ (withR t.rs st) && (decideE (withR t.rs st).facts (.bin .lt .i64 (t'.mea.sub (t'.τ.solve (withR t.rs st))) t.mea) == some true)) || noWay (addRules st.facts t.rs)
def lfOkR (gl : Gl) (cuts : List CutR) (endOk : Rs → Bool) (K : Nat) (c : CutR) (t : TmR) : Lf → Bool
  | .back st => backOkR gl K c t st
  | .fwd s => leafOkR gl cuts endOk K t.rs c.rank s
def roundOkR (P : Program) (gl : Gl) (call : Caller) (keep : Nat → List Nat) (fuel : Nat) (cuts : List CutR) (endOk : Rs → Bool) (K : Nat) (C : Code) (p : Fs) (c : CutR) (t : TmR) (g : Nat → Value) : Bool :=
  match bodyAt C c.p with
  | some b => (decideE (t.τ.stP g p).facts (.bin .lt .i64 t.mea (.lit 0)) == some false) && (roundT P gl call keep fuel C c.p b (t.τ.stP g p)).all (lfOkR gl cuts endOk K c t)
  | none => false
section
variable {P : Program} {ρ : Env} {w0 : World} {M : Nat → Prop} {gl : Gl} {call : Caller} {keep : Nat → List Nat} {fuel : Nat} {cuts : List CutR} {endOk : Rs → Bool} {C : Code} {Q : Exit → Act → World → Prop} {K : Nat}
theorem SameK.refl (ρ : Env) : SameK K ρ ρ := ⟨rfl, rfl, fun _ _ => rfl⟩
theorem SameK.sub {ρ' : Env} {fs : Fs} {σ : Nat → E} (h : SameK K ρ ρ') (hf : FsOk ρ' fs) (hx : fixedOk K fs σ = true) : SameK K ρ (envSub ρ' σ) :=
  ⟨h.1, h.2.1, fun i hi => by
    have := List.all_eq_true.1 hx i (List.mem_range.2 hi)
    exact (eqF_spec hf this).trans (h.2.2 i hi)⟩
theorem lt_of_decide {fs : Fs} (hf : FsOk ρ fs) {a b : E} (h : decideE fs (.bin .lt .i64 a b) = some true) : a.ev ρ < b.ev ρ := by
  have h1 : (if a.ev ρ < b.ev ρ then (1 : Int) else 0) ≠ 0 := of_decide_eq_true (decideE_spec hf h)
  by_cases hl : a.ev ρ < b.ev ρ
  · exact hl
  · rw [if_neg hl] at h1; exact absurd rfl h1
theorem ge_of_decide {fs : Fs} (hf : FsOk ρ fs) {a b : E} (h : decideE fs (.bin .lt .i64 a b) = some false) : b.ev ρ ≤ a.ev ρ := by
  have h1 : ¬ (if a.ev ρ < b.ev ρ then (1 : Int) else 0) ≠ 0 := of_decide_eq_false (decideE_spec hf h)
  by_cases hl : a.ev ρ < b.ev ρ
  · rw [if_pos hl] at h1; simp at h1
  · omega
theorem withR_conc {rs : List Rule} {st : St} {β : Bm} {a : Act} {w : World} (h : Conc ρ w0 M gl β st a w) (hr : ∀ r ∈ rs, RuleOk ρ r) : Conc ρ w0 M gl β (withR rs st) a w :=
  h.facts_to (addRules_ok h.facts hr)
set_option maxHeartbeats 1000000 in
/-- Loops; 'ax' is known all along. -/
theorem loopsX_run {ax : Fs} (hax : ∀ ρ', SameK K ρ ρ' → FsOk ρ' ax) (hc : ∀ ρ', SameK K ρ ρ' → CallOk P ρ' w0 M gl call) (hm : P.follows .mixedOrders = true)
    (hend : ∀ ρ' (β : Bm) (r : Rs) (a : Act) (w : World), SameK K ρ ρ' → Conc ρ' w0 M gl β r.st a w → endOk r = true → Q r.x.to a w)
    (hrule : ∀ ρ', SameK K ρ ρ' → ∀ c ∈ cuts, ∀ t ∈ c.ts, ∀ r ∈ t.rs, RuleOk ρ' r)
    (hr : ∀ c ∈ cuts, ∀ t ∈ c.ts, ∃ ct : CT, ∀ g, ct.all fun p => roundOkR P gl call keep fuel cuts endOk K C (p ++ ax) c t g = true) :
    ∀ (rk : Nat) (ρ' : Env) (β : Bm) (p : Path) (st : St) (a : Act) (w : World), SameK K ρ ρ' → (cuts.any fun c => (c.p == p) && decide (c.rank < rk) && c.ts.any fun t => fitR gl K t.τ st) = true → Conc ρ' w0 M gl β st a w → LoopAt P C p Q a w
  | 0, ρ', β, p, st, a, w, hρ, h, hst => by
    simp only [List.any_eq_true, Bool.and_eq_true, decide_eq_true_eq] at h
    obtain ⟨c, _, ⟨_, h⟩, _⟩ := h
    omega
  | rk + 1, ρ', β, p, st, a, w, hρ, h, hst => by
    simp only [List.any_eq_true, Bool.and_eq_true, decide_eq_true_eq] at h
    obtain ⟨c, hcm, ⟨hp, hrk⟩, t, ht, hfit⟩ := h
    obtain rfl : c.p = p := by simpa using hp
    obtain ⟨ct0, hct0⟩ := hr c hcm t ht
    obtain ⟨p0, _, h0⟩ := CT.some ρ' (hct0 (fun _ => undef))
    unfold roundOkR at h0
    split at h0
    rotate_left
    · cases h0
    rename_i b hb
    refine ⟨b, hb, ?_⟩
    -- the measure is no negative number
    have pos : ∀ (ρ'' : Env) (t : TmR) (g : Nat → Value) (β : Bm) (a : Act) (w : World), SameK K ρ ρ'' → t ∈ c.ts → Conc ρ'' w0 M gl β (t.τ.st g) a w → 0 ≤ t.mea.ev ρ'' := fun ρ'' t g β a w hρ'' ht hst => by
      obtain ⟨ct1, hct1⟩ := hr c hcm t ht
      obtain ⟨p1, hp1, h1⟩ := CT.some ρ'' (hct1 g)
      unfold roundOkR at h1
      rw [hb] at h1
      simp only [Bool.and_eq_true, beq_iff_eq] at h1
      exact ge_of_decide (fsOk_app (fsOk_app hp1 (hax ρ'' hρ'')) hst.facts) h1.1
    -- round by round
    have key : ∀ (m : Nat) (ρ'' : Env) (t : TmR) (g : Nat → Value) (β : Bm) (a : Act) (w : World), SameK K ρ ρ'' → t ∈ c.ts → Conc ρ'' w0 M gl β (t.τ.st g) a w → (t.mea.ev ρ'').toNat < m → Code.rounds P b (postAt P C c.p Q) m a w := by
      intro m
      induction m with
      | zero => intro ρ'' t g β a w _ _ _ hlt; omega
      | succ m ih =>
        intro ρ'' t g β a w hρ'' ht hst hlt
        have hrl := hrule ρ'' hρ'' c hcm t ht
        have hpos' := pos ρ'' t g β a w hρ'' ht hst
        obtain ⟨ct1, hct1⟩ := hr c hcm t ht
        obtain ⟨p1, hp1, h1⟩ := CT.some ρ'' (hct1 g)
        replace hst : Conc ρ'' w0 M gl β (t.τ.stP g (p1 ++ ax)) a w := hst.facts_to (fsOk_app (fsOk_app hp1 (hax ρ'' hρ'')) hst.facts)
        unfold roundOkR at h1
        rw [hb] at h1
        simp only [Bool.and_eq_true, beq_iff_eq] at h1
        have h2 := T.all_holds (ρ := ρ'') h1.2
        unfold roundT at h2
        rw [T.holds_bind] at h2
        rw [rounds_succ]
        refine execP_run (hc ρ'' hρ'') hm b β _ a w _ hst (T.holds_mono (fun s hs => ?_) h2)
        cases s with
        | loop _ _ => exact hs.elim
        | done r =>
          obtain ⟨x, st'⟩ := r
          have fwd : ∀ x', x' = x → x' ≠ .normal → T.holds ρ'' ((resumeP P gl call keep fuel C c.p ⟨x', st'⟩).map Lf.fwd) (fun lf => lfOkR gl cuts endOk K c t lf = true) → Ends ρ'' w0 M gl β (t.τ.st g).hp (Exit.then (Code.rounds P b (postAt P C c.p Q) m) (postAt P C c.p Q)) ⟨x', st'⟩ := fun x' hx' hne hs => by
            intro β' a' w' hx hl hss hc'
            rw [T.holds_map'] at hs
            have := resumeP_run (hc ρ'' hρ'') hm C c.p β' ⟨x', st'⟩ a' w' Q hc' (T.holds_mono (fun s' hs' => ?_) hs)
            · cases x' with
              | normal => exact absurd rfl hne
              | exit id => exact this
              | ret => exact this
            · cases s' with
              | done r' =>
                intro β2 a2 w2 _ _ _ hc2
                have hs2 : (endOk ⟨r'.x, withR t.rs r'.st⟩ || noWay (addRules r'.st.facts t.rs)) = true := hs'
                have hc3 := withR_conc hc2 hrl
                rw [Bool.or_eq_true] at hs2
                rcases hs2 with hs2 | hs2
                · exact hend ρ'' β2 ⟨r'.x, withR t.rs r'.st⟩ a2 w2 hρ'' hc3 hs2
                · exact (noWay_spec hc3.facts hs2).elim
              | loop p' st2 =>
                intro β2 a2 w2 _ _ _ hc2
                have hs2 : ((cuts.any fun c' => (c'.p == p') && decide (c'.rank < c.rank) && c'.ts.any fun t' => fitR gl K t'.τ (withR t.rs st2)) || noWay (addRules st2.facts t.rs)) = true := hs'
                have hc3 := withR_conc hc2 hrl
                rw [Bool.or_eq_true] at hs2
                rcases hs2 with hs2 | hs2
                · refine loopsX_run hax hc hm hend hrule hr rk ρ'' β2 p' (withR t.rs st2) a2 w2 hρ'' ?_ hc3
                  simp only [List.any_eq_true, Bool.and_eq_true, decide_eq_true_eq] at hs2 ⊢
                  obtain ⟨c', hcm', ⟨hp', hrk'⟩, hx'⟩ := hs2
                  exact ⟨c', hcm', ⟨hp', by omega⟩, hx'⟩
                · exact (noWay_spec hc3.facts hs2).elim
          cases x with
          | normal =>
            intro β' a' w' hx hl hss hc'
            have hs' : backOkR gl K c t st' = true := hs
            have hc3 := withR_conc hc' hrl
            unfold backOkR at hs'
            rw [Bool.or_eq_true] at hs'
            rcases hs' with hs' | hs'
            rotate_left
            · exact (noWay_spec hc3.facts hs').elim
            simp only [List.any_eq_true, Bool.and_eq_true, beq_iff_eq] at hs'
            obtain ⟨t', ht', hfit', hdec⟩ := hs'
            unfold fitR at hfit'
            rw [Bool.and_eq_true] at hfit'
            have hc2 := Tm.fit_run hc3 hfit'.1
            have hd := lt_of_decide hc3.facts hdec
            rw [E.sub_ev] at hd
            have hp3' := pos _ t' _ _ a' w' (hρ''.sub hc3.facts hfit'.2) ht' hc2
            exact ih _ t' _ _ a' w' (hρ''.sub hc3.facts hfit'.2) ht' hc2 (by omega)
          | exit id => exact fwd (.exit id) rfl (by intro h; cases h) hs
          | ret => exact fwd .ret rfl (by intro h; cases h) hs
    unfold fitR at hfit
    rw [Bool.and_eq_true] at hfit
    exact more_rounds ((t.mea.ev (envSub ρ' (t.τ.solve st))).toNat + 1) (key _ _ t _ _ a w (hρ.sub hst.facts hfit.2) ht (Tm.fit_run hst hfit.1) (by omega))
theorem codeX_run {ax : Fs} (hax : ∀ ρ', SameK K ρ ρ' → FsOk ρ' ax) (hc : ∀ ρ', SameK K ρ ρ' → CallOk P ρ' w0 M gl call) (hm : P.follows .mixedOrders = true)
    (hend : ∀ ρ' (β : Bm) (r : Rs) (a : Act) (w : World), SameK K ρ ρ' → Conc ρ' w0 M gl β r.st a w → endOk r = true → Q r.x.to a w)
    (hrule : ∀ ρ', SameK K ρ ρ' → ∀ c ∈ cuts, ∀ t ∈ c.ts, ∀ r ∈ t.rs, RuleOk ρ' r)
    (hr : ∀ c ∈ cuts, ∀ t ∈ c.ts, ∃ ct : CT, ∀ g, ct.all fun p => roundOkR P gl call keep fuel cuts endOk K C (p ++ ax) c t g = true) {rs0 : List Rule} (hr0 : ∀ r ∈ rs0, RuleOk ρ r) {rk : Nat} {β : Bm} {st : St} {a : Act} {w : World} (hst : Conc ρ w0 M gl β st a w)
    (h : (execP P gl call keep fuel C st).holds ρ fun s => leafOkR gl cuts endOk K rs0 rk s = true) : C.wp P Q a w := by
  refine execP_run (hc ρ (SameK.refl ρ)) hm C β st a w Q hst (T.holds_mono (fun s hs => ?_) h)
  cases s with
  | done r =>
    intro β2 a2 w2 _ _ _ hc2
    have hs2 : (endOk ⟨r.x, withR rs0 r.st⟩ || noWay (addRules r.st.facts rs0)) = true := hs
    have hc3 := withR_conc hc2 hr0
    rw [Bool.or_eq_true] at hs2
    rcases hs2 with hs2 | hs2
    · exact hend ρ β2 ⟨r.x, withR rs0 r.st⟩ a2 w2 (SameK.refl ρ) hc3 hs2
    · exact (noWay_spec hc3.facts hs2).elim
  | loop p st' =>
    intro β2 a2 w2 _ _ _ hc2
    have hs2 : ((cuts.any fun c' => (c'.p == p) && decide (c'.rank < rk) && c'.ts.any fun t' => fitR gl K t'.τ (withR rs0 st')) || noWay (addRules st'.facts rs0)) = true := hs
    have hc3 := withR_conc hc2 hr0
    rw [Bool.or_eq_true] at hs2
    rcases hs2 with hs2 | hs2
    · exact loopsX_run hax hc hm hend hrule hr rk ρ β2 p (withR rs0 st') a2 w2 (SameK.refl ρ) hs2 hc3
    · exact (noWay_spec hc3.facts hs2).elim
/-- A function whose ways all end as 'endOk' says. -/
theorem fn_runX {ax : Fs} (hax : ∀ ρ', SameK K ρ ρ' → FsOk ρ' ax) {R : Ending → World → Prop} {w : World} {β : Bm} {hp : Hp} (hc : ∀ ρ', SameK K ρ ρ' → CallOk P ρ' w0 M gl call) (hm : P.follows .mixedOrders = true) {f : FuncId} {fn : Func} (hfn : P.funcs[f]? = some fn) (hbd : fn.body = some C) {args : List SV} {fs0 : Fs} {rk : Nat} (hh : Heap ρ w0 M β hp w) (hg : GlOk gl β hp.n) (hfs : FsOk ρ fs0)
    (hargs : SV.oks ρ hp.n args)
    (hrule : ∀ ρ', SameK K ρ ρ' → ∀ c ∈ cuts, ∀ t ∈ c.ts, ∀ r ∈ t.rs, RuleOk ρ' r)
    (hr : ∀ c ∈ cuts, ∀ t ∈ c.ts, ∃ ct : CT, ∀ g, ct.all fun p => roundOkR P gl call keep fuel cuts endOk K C (p ++ ax) c t g = true) {rs0 : List Rule} (hr0 : ∀ r ∈ rs0, RuleOk ρ r)
    (h : (execP P gl call keep fuel C (entrySt fn args hp fs0)).all (leafOkR gl cuts endOk K rs0 rk) = true)
    (hend : ∀ ρ' (β' : Bm) (r : Rs) (a : Act) (w' : World), SameK K ρ ρ' → Conc ρ' w0 M gl β' r.st a w' → endOk r = true → (∀ id, r.x ≠ .exit id) ∧ ∃ vs, resultsS P r.st fn.results.toList = some vs ∧ R (.returned ((packS vs).ev ρ' β')) w') :
    Calls P f (SV.evs ρ β args).toArray w R := by
  refine calls_of_wp hfn hbd (codeX_run hax hc hm ?_ hrule hr hr0 (entry_conc hh hfs hargs hg) (T.all_holds h))
  intro ρ' β' r a w' hρ hst he
  obtain ⟨h1, vs, hvs, hR⟩ := hend ρ' β' r a w' hρ hst he
  obtain ⟨x, st⟩ := r
  obtain ⟨r1, r2⟩ := results_run hst hvs
  cases x with
  | exit id => exact absurd rfl (h1 id)
  | normal => exact ⟨hst.defers, _, r1, hR⟩
  | ret => exact ⟨hst.defers, _, r1, hR⟩
theorem no_ax {p : Fs → Prop} {ct : CT} (h : ct.all p) : ct.all fun q => p (q ++ []) := by
  simp only [List.append_nil]
  exact h
/-- .. with nothing known all along. -/
theorem fn_run {R : Ending → World → Prop} {w : World} {β : Bm} {hp : Hp} (hc : ∀ ρ', SameK K ρ ρ' → CallOk P ρ' w0 M gl call) (hm : P.follows .mixedOrders = true) {f : FuncId} {fn : Func} (hfn : P.funcs[f]? = some fn) (hbd : fn.body = some C) {args : List SV} {fs0 : Fs} {rk : Nat} (hh : Heap ρ w0 M β hp w) (hg : GlOk gl β hp.n) (hfs : FsOk ρ fs0)
    (hargs : SV.oks ρ hp.n args)
    (hrule : ∀ ρ', SameK K ρ ρ' → ∀ c ∈ cuts, ∀ t ∈ c.ts, ∀ r ∈ t.rs, RuleOk ρ' r)
    (hr : ∀ c ∈ cuts, ∀ t ∈ c.ts, ∃ ct : CT, ∀ g, ct.all fun p => roundOkR P gl call keep fuel cuts endOk K C p c t g = true) {rs0 : List Rule} (hr0 : ∀ r ∈ rs0, RuleOk ρ r)
    (h : (execP P gl call keep fuel C (entrySt fn args hp fs0)).all (leafOkR gl cuts endOk K rs0 rk) = true)
    (hend : ∀ ρ' (β' : Bm) (r : Rs) (a : Act) (w' : World), SameK K ρ ρ' → Conc ρ' w0 M gl β' r.st a w' → endOk r = true → (∀ id, r.x ≠ .exit id) ∧ ∃ vs, resultsS P r.st fn.results.toList = some vs ∧ R (.returned ((packS vs).ev ρ' β')) w') :
    Calls P f (SV.evs ρ β args).toArray w R :=
  fn_runX (ax := []) (fun _ _ p hp => by cases hp) hc hm hfn hbd hh hg hfs hargs hrule (fun c hcm t ht => (hr c hcm t ht).imp fun ct h g => no_ax (h g)) hr0 h hend
end
/-- An end that returns 'true'. -/
def trueEnd (P : Program) (fn : Func) (r : Rs) : Bool := lawEnd P fn r
end Go.Proofs.YtbjficjcgpgcbaaDoor.SX
namespace Go.Proofs.YtbjficjcgpgcbaaDoor.SX
open Go Go.RowKit
set_option linter.unusedVariables false
set_option linter.unusedSimpArgs false

/-! ### Expressions of the variables below K -/
mutual
def E.upto (K : Nat) : E → Bool
  | .lit _ => true
  | .var i => decide (i < K)
  | .rd _ _ i => E.upto K i
  | .bin _ _ a b => E.upto K a && E.upto K b
  | .app _ _ l => E.uptos K l
def E.uptos (K : Nat) : List E → Bool
  | [] => true
  | e :: l => E.upto K e && E.uptos K l
end
mutual
theorem E.ev_same {K : Nat} {ρ ρ' : Env} (h : SameK K ρ ρ') : ∀ e : E, e.upto K = true → e.ev ρ' = e.ev ρ
  | .lit _, _ => rfl
  | .var i, he => h.2.2 i (of_decide_eq_true he)
  | .rd a f i, he => by simp only [E.ev]; rw [E.ev_same h i he]; unfold Env.rd; rw [h.2.1]
  | .bin o k a b, he => by
    simp only [E.upto, Bool.and_eq_true] at he
    simp only [E.ev]; rw [E.ev_same h a he.1, E.ev_same h b he.2]
  | .app f j l, he => by simp only [E.ev]; rw [E.evs_same h l he, h.1]
theorem E.evs_same {K : Nat} {ρ ρ' : Env} (h : SameK K ρ ρ') : ∀ l : List E, E.uptos K l = true → E.evs ρ' l = E.evs ρ l
  | [], _ => rfl
  | e :: l, he => by
    simp only [E.uptos, Bool.and_eq_true] at he
    simp only [E.evs]; rw [E.ev_same h e he.1, E.evs_same h l he.2]
end
mutual
def SV.upto (K : Nat) : SV → Bool
  | .int _ e => e.upto K
  | .bool e => e.upto K
  | .ptr _ _ | .slice _ _ _ _ | .map _ | .raw _ => true
  | .str l => E.uptos K l
  | .agg l => SV.uptos K l
  | .tuple l => SV.uptos K l
  | .func _ x y => SV.uptos K x && SV.uptos K y
  | .inp _ _ _ _ b c => b.upto K && c.upto K
  | .iptr _ _ _ b _ => b.upto K
def SV.uptos (K : Nat) : List SV → Bool
  | [] => true
  | s :: l => SV.upto K s && SV.uptos K l
end
mutual
theorem SV.ev_same {K : Nat} {ρ ρ' : Env} {β : Bm} (h : SameK K ρ ρ') : ∀ s : SV, s.upto K = true → s.ev ρ' β = s.ev ρ β
  | .int _ e, he => by simp only [SV.ev]; rw [E.ev_same h e he]
  | .bool e, he => by simp only [SV.ev]; rw [E.ev_same h e he]
  | .ptr _ _, _ => rfl
  | .slice _ _ _ _, _ => rfl
  | .map _, _ => rfl
  | .raw _, _ => rfl
  | .str l, he => by simp only [SV.ev]; rw [E.evs_same h l he]
  | .agg l, he => by simp only [SV.ev]; rw [SV.evs_same h l he]
  | .tuple l, he => by simp only [SV.ev]; rw [SV.evs_same h l he]
  | .func _ x y, he => by
    simp only [SV.upto, Bool.and_eq_true] at he
    simp only [SV.ev]; rw [SV.evs_same h x he.1, SV.evs_same h y he.2]
  | .inp _ _ _ _ b c, he => by
    simp only [SV.upto, Bool.and_eq_true] at he
    simp only [SV.ev]; rw [E.ev_same h b he.1, E.ev_same h c he.2]
  | .iptr _ _ _ b _, he => by simp only [SV.ev]; rw [E.ev_same h b he]
theorem SV.evs_same {K : Nat} {ρ ρ' : Env} {β : Bm} (h : SameK K ρ ρ') : ∀ l : List SV, SV.uptos K l = true → SV.evs ρ' β l = SV.evs ρ β l
  | [], _ => rfl
  | s :: l, he => by
    simp only [SV.uptos, Bool.and_eq_true] at he
    simp only [SV.evs]; rw [SV.ev_same h s he.1, SV.evs_same h l he.2]
end

/-! ### A slice of plain data in memory -/
/-- What is known of its length (variable m) and its capacity. -/
def lenU (m : Nat) : Fs := [(.bin .lt .i64 (.lit 0) (.var m), true), (.bin .zrng .i64 (.var m) (.lit 0), true), (.bin .lt .i64 (.var (m + 1)) (.var m), false)]
structure ArrIn (w : World) (ks : List Lk) (b off len cap : Nat) (A : Nat → Nat → Int → Int) : Prop where
  le : len ≤ cap
  max : len ≤ 9223372036854775807
  pos : 0 < len
  lt : b < w.heap.size
  cell : ∀ (i f : Nat) (l : Lk), i < len → ks[f]? = some l → w.cell? ⟨b, off + (i * ks.length + f), none⟩ = some (l.val ((kOf (l.code f)).wrap (A 0 (l.code f) i))) ∧ l.fits ((kOf (l.code f)).wrap (A 0 (l.code f) i))
theorem ArrIn.keep {w w' : World} {ks : List Lk} {b off len cap : Nat} {A : Nat → Nat → Int → Int} (h : ArrIn w ks b off len cap A) (hb : w'.heap[b]? = w.heap[b]?) : ArrIn w' ks b off len cap A := by
  refine ⟨h.le, h.max, h.pos, ?_, fun i f l hi hl => ?_⟩
  · have := h.lt
    have h1 : w.heap[b]? ≠ none := by rw [Array.getElem?_eq_getElem this]; exact Option.some_ne_none _
    rw [← hb] at h1
    by_cases h2 : b < w'.heap.size
    · exact h2
    · exact absurd (Array.getElem?_eq_none (by omega)) h1
  · have : w'.cell? ⟨b, off + (i * ks.length + f), none⟩ = w.cell? ⟨b, off + (i * ks.length + f), none⟩ := by unfold World.cell?; simp only [hb]
    rw [this]
    exact h.cell i f l hi hl
theorem ArrIn.below {w w' : World} {ks : List Lk} {b off len cap : Nat} {A : Nat → Nat → Int → Int} (h : ArrIn w ks b off len cap A) (hb : Below w.heap.size w w') : ArrIn w' ks b off len cap A := h.keep (hb.block b h.lt)
section
variable {P : Program} {w : World}
/-- A slice that the heap at hand knows. -/
theorem ArrIn.of_heap {ρ : Env} {w0 : World} {M : Nat → Prop} {β : Bm} {hp : Hp} (hh : Heap ρ w0 M β hp w) {k : Nat} {r : Bool} {ks : List Lk} {len0 len cap : E} (hk : hp.at k = some ⟨r, .arr 0 ks len0⟩)
    (h0 : (len.ev ρ) = len0.ev ρ) (h1 : 0 < len.ev ρ) (h2 : len.ev ρ ≤ cap.ev ρ) (h3 : len.ev ρ ≤ 9223372036854775807) : ArrIn w ks (β k).1 (β k).2 (len.ev ρ).toNat (cap.ev ρ).toNat ρ.arr := by
  refine ⟨by omega, by omega, by omega, Nat.lt_of_lt_of_le (hh.arrs k _ hk rfl).1 hh.kept.size, fun i f l hi hl => ?_⟩
  have := hh.lies k _ hk
  simp only [Bx.lies] at this
  exact this i f l (by rw [← h0]; exact hi) hl
theorem ArrIn.of_in {ks : List Lk} {S : Value} (h : InSl w ks S) : S = .slice none 0 0 ∨ (∃ (b off cap : Nat), S = .slice (some ⟨b, off, none⟩) 0 cap ∧ cap ≤ maxLen) ∨
    ∃ (b off len cap : Nat) (A : Nat → Nat → Int → Int), S = .slice (some ⟨b, off, none⟩) len cap ∧ ArrIn w ks b off len cap A ∧ cap ≤ maxLen := by
  rcases h with rfl | ⟨b, off, len, cap, c, rfl, h1, h2, h3, h4⟩
  · exact .inl rfl
  · by_cases h0 : len = 0
    · subst h0
      exact .inr (.inl ⟨b, off, cap, rfl, h2⟩)
    · refine .inr (.inr ⟨b, off, len, cap, arrOf ks c, rfl, ⟨h1, by unfold maxLen at h2; omega, by omega, h3 (by omega), fun i f l hi hl => ?_⟩, h2⟩)
      obtain ⟨q1, q2⟩ := arrOf_spec (F := fun _ _ _ => 0) (ns := []) hl (h4 i f l hl).1
      rw [(h4 i f l hl).2 hi]
      exact ⟨by rw [← q1]; rfl, q2⟩
/-- The known heap of a call with such a slice. -/
theorem arr_start {ks : List Lk} {b off len cap : Nat} {A : Nat → Nat → Int → Int} (tabs : Tabs) (hd : (tabs.map (·.1)).Nodup) (ht : TabsIn tabs w) (h : ArrIn w ks b off len cap A) (F : Nat → Nat → List Int → Int) (ns : List Int) {m : Nat} (hn1 : ns.getD m 0 = len) (hn2 : ns.getD (m + 1) 0 = cap) :
    Heap (envA F ns A) w (fun _ => False) (upd (tabB tabs) tabs.length (b, off)) (arrHp tabs ks m) w ∧ GlOk (tabGl tabs 0) (upd (tabB tabs) tabs.length (b, off)) (tabs.length + 1) ∧ FsOk (envA F ns A) (lenU m) ∧
    (SV.inp tabs.length ks.length 0 (.var m) (.var m) (.var (m + 1))).ok (envA F ns A) (tabs.length + 1) ∧ (SV.inp tabs.length ks.length 0 (.var m) (.var m) (.var (m + 1))).ev (envA F ns A) (upd (tabB tabs) tabs.length (b, off)) = .slice (some ⟨b, off, none⟩) len cap := by
  have i1 : IntKind.i64.min = -9223372036854775808 := by decide
  have i2 : IntKind.i64.max = 9223372036854775807 := by decide
  have hle := h.le
  have hmx := h.max
  have hps := h.pos
  refine ⟨(tab_heap hd ht _ _).pushRo (b := .arr 0 ks (.var m)) (bv := (b, off)) rfl trivial ?_ (fun _ => ⟨h.lt, fun h => h⟩), ?_, ?_, ⟨Nat.lt_succ_self _, ?_, ?_, ?_, ?_⟩, ?_⟩
  · intro i f l hi hl
    simp only [E.ev, envA, hn1] at hi
    exact h.cell i f l (by simpa using hi) hl
  · exact tab_gl (fun j p hj => by
      have hjl := (List.getElem?_eq_some_iff.1 hj).1
      have : upd (tabB tabs) tabs.length (b, off) (0 + j) = tabB tabs j := by rw [Nat.zero_add]; exact upd_ext _ _ _ j hjl
      rw [this]; simp [tabB, hj]) (by omega)
  · intro p hp
    simp only [lenU, List.mem_cons, List.not_mem_nil, or_false] at hp
    rcases hp with rfl | rfl | rfl <;> simp only [E.ev, BOp.ev, envA, hn1, hn2, i1, i2]
    · rw [if_pos (by omega)]; simp
    · rw [if_pos (by omega)]; simp
    · rw [if_neg (by omega)]; simp
  · simp only [E.ev, envA, hn1]
    exact (wf_iff .i64 _).2 (by rw [i1, i2]; omega)
  · simp only [E.ev, envA, hn1]; omega
  · simp only [E.ev, envA, hn1, hn2]; omega
  · simp only [E.ev, envA, hn1]; omega
  · simp only [SV.ev, E.ev, envA, hn1, hn2, upd_same]
    simp
theorem phOne_pos : ∀ {hs : List Ph}, phOne hs = true → 0 < (phKs hs).length
  | [], h => by cases h
  | .sh _ :: l, h => phOne_pos (hs := l) h
  | .sl ks :: l, h => by
    simp only [phOne, Bool.and_eq_true, Bool.not_eq_true'] at h
    cases ks with
    | nil => cases h.1
    | cons _ _ => simp [phKs]
theorem phOne_rest {l : List Ph} (h : (l.all fun p => match p with
    | .sh _ => true
    | .sl _ => false) = true) : ∀ p ∈ l, ∀ ks, p ≠ .sl ks := fun p hp ks e => by
  have := List.all_eq_true.1 h p hp
  subst e
  cases this
theorem phOne_ks : ∀ {hs : List Ph}, phOne hs = true → ∀ p ∈ hs, ∀ ks', p = .sl ks' → ks' = phKs hs
  | [], h => by cases h
  | .sh _ :: l, h => fun p hp ks' e => by
    rcases List.mem_cons.1 hp with rfl | hp
    · cases e
    · exact phOne_ks (hs := l) h p hp ks' e
  | .sl ks :: l, h => fun p hp ks' e => by
    simp only [phOne, Bool.and_eq_true] at h
    rcases List.mem_cons.1 hp with rfl | hp
    · cases e; rfl
    · exact absurd e (phOne_rest h.2 p hp ks')
theorem phOne_one : ∀ {hs : List Ph}, phOne hs = true → (hs.filter fun p => match p with | .sh _ => false | .sl _ => true).length = 1
  | [], h => by cases h
  | .sh _ :: l, h => by
    have := phOne_one (hs := l) h
    simpa using this
  | .sl ks :: l, h => by
    simp only [phOne, Bool.and_eq_true] at h
    have : l.filter (fun p => match p with | .sh _ => false | .sl _ => true) = [] := by
      rw [List.filter_eq_nil_iff]
      intro q hq
      cases q with
      | sh _ => simp
      | sl ks' => exact (phOne_rest h.2 _ hq ks' rfl).elim
    simp [this]

/-! ### Ends -/
def expBoxes (fs : Fs) (hp : Hp) : List (Nat × Bx) → Bool
  | [] => true
  | (k, b) :: l => (match hp.at k with
    | some ⟨r, c⟩ => (r || !b.live) && b.fit fs (fun i => .var i) id hp.n c
    | none => false) && expBoxes fs hp l
/-- An end that returns what is wanted, with the boxes that are wanted. -/
def wantEnd (P : Program) (fn : Func) (want : List SV) (bs : List (Nat × Bx)) (r : Rs) : Bool :=
  match r.x with
  | .exit _ => false
  | _ => match resultsS P r.st fn.results.toList with
    | some vs => SV.fitL r.st.facts (fun i => .var i) id r.st.hp.n want vs && expBoxes r.st.facts r.st.hp bs
    | none => false
theorem envSub_var (ρ : Env) : envSub ρ (fun i => .var i) = ρ := rfl
theorem expBoxes_spec {ρ : Env} {w0 : World} {M : Nat → Prop} {β : Bm} {hp : Hp} {fs : Fs} (hh : Heap ρ w0 M β hp w) (hf : FsOk ρ fs) : ∀ {l : List (Nat × Bx)}, expBoxes fs hp l = true →
    ∀ p ∈ l, p.2.lies ρ β (β p.1) w ∧ p.1 < hp.n ∧ (p.2.live = true → M (β p.1).1 ∨ w0.heap.size ≤ (β p.1).1)
  | [], _ => fun p hp => by cases hp
  | (k, b) :: l, h => fun p hpm => by
    simp only [expBoxes, Bool.and_eq_true] at h
    rcases List.mem_cons.1 hpm with rfl | hpm
    · have h1 := h.1
      split at h1
      · rename_i r c hk
        simp only [Bool.and_eq_true, Bool.or_eq_true, Bool.not_eq_true'] at h1
        obtain ⟨s1, s2, s3, s4⟩ := Bx.fit_spec (β := β) (m := hp.n) (w := w) hf h1.2
        rw [envSub_var] at s1
        refine ⟨s1 _ (hh.lies k _ hk), Hp.at_lt hk, fun hv => ?_⟩
        rcases h1.1 with hr | hr
        · subst hr; exact hh.mine k _ hk rfl (s3 hv)
        · simp only at hv; rw [hr] at hv; cases hv
      · cases h1
    · exact expBoxes_spec hh hf h.2 p hpm
theorem wantEnd_spec {ρ ρ' : Env} {w0 w' : World} {M : Nat → Prop} {gl : Gl} {β : Bm} {fn : Func} {want : List SV} {bs : List (Nat × Bx)} {K : Nat} (hρ : SameK K ρ ρ') (hw : SV.uptos K want = true) {r : Rs} {a : Act} (hst : Conc ρ' w0 M gl β r.st a w') (he : wantEnd P fn want bs r = true) :
    (∀ id, r.x ≠ .exit id) ∧ ∃ vs, resultsS P r.st fn.results.toList = some vs ∧ (packS vs).ev ρ' β = packV (SV.evs ρ β want) ∧ SV.oks ρ' r.st.hp.n want ∧ (∀ p ∈ bs, p.2.lies ρ' β (β p.1) w' ∧ (p.2.live = true → M (β p.1).1 ∨ w0.heap.size ≤ (β p.1).1)) ∧ Kept w0 M w' := by
  obtain ⟨x, st⟩ := r
  have main : ∀ vs, resultsS P st fn.results.toList = some vs → (SV.fitL st.facts (fun i => .var i) id st.hp.n want vs && expBoxes st.facts st.hp bs) = true →
      (packS vs).ev ρ' β = packV (SV.evs ρ β want) ∧ SV.oks ρ' st.hp.n want ∧ (∀ p ∈ bs, p.2.lies ρ' β (β p.1) w' ∧ (p.2.live = true → M (β p.1).1 ∨ w0.heap.size ≤ (β p.1).1)) ∧ Kept w0 M w' := fun vs hvs hb => by
    rw [Bool.and_eq_true] at hb
    obtain ⟨f1, f2⟩ := SV.fitL_spec (β := β) (m := st.hp.n) hst.facts _ _ hb.1
    rw [envSub_var] at f1 f2
    have hok := (resultsS_run hst hvs).2
    refine ⟨?_, f2 hok, fun p hp => ?_, hst.heap.kept⟩
    · rw [(packS_spec (β := β) vs hok).1, f1, SV.evs_same hρ want hw]
      rfl
    · obtain ⟨q1, q2, q3⟩ := expBoxes_spec hst.heap hst.facts hb.2 p hp
      exact ⟨q1, q3⟩
  unfold wantEnd at he
  cases x with
  | exit id => cases he
  | normal =>
    simp only at he
    split at he
    · rename_i vs hvs
      exact ⟨fun id h => Ex.noConfusion h, vs, hvs, main vs hvs he⟩
    · cases he
  | ret =>
    simp only at he
    split at he
    · rename_i vs hvs
      exact ⟨fun id h => Ex.noConfusion h, vs, hvs, main vs hvs he⟩
    · cases he
/-- A law's end. -/
theorem lawEnd_spec {ρ' : Env} {w0 w' : World} {gl : Gl} {β : Bm} {fn : Func} {r : Rs} {a : Act} (hst : Conc ρ' w0 (fun _ => False) gl β r.st a w') (he : lawEnd P fn r = true) :
    (∀ id, r.x ≠ .exit id) ∧ ∃ vs, resultsS P r.st fn.results.toList = some vs ∧ (Ending.returned ((packS vs).ev ρ' β) = .returned (.bool true) ∧ Below w0.heap.size w0 w') := by
  obtain ⟨x, st⟩ := r
  have main : ∀ vs, resultsS P st fn.results.toList = some vs → (isTrueF ⟨packS vs, st.hp, st.facts⟩ || absurdB st.facts st.facts) = true → (Ending.returned ((packS vs).ev ρ' β) = .returned (.bool true) ∧ Below w0.heap.size w0 w') := fun vs hvs ht => by
    rw [Bool.or_eq_true] at ht
    rcases ht with ht | ht
    · have := isTrueF_spec (o := ⟨packS vs, st.hp, st.facts⟩) hst.facts ht β
      simp only at this
      exact ⟨by rw [this], hst.heap.kept.to_below⟩
    · exact (absurdB_spec hst.facts ht).elim
  unfold lawEnd at he
  cases x with
  | exit id => cases he
  | normal =>
    simp only at he
    split at he
    · rename_i vs hvs
      exact ⟨fun id h => Ex.noConfusion h, vs, hvs, main vs hvs he⟩
    · cases he
  | ret =>
    simp only at he
    split at he
    · rename_i vs hvs
      exact ⟨fun id h => Ex.noConfusion h, vs, hvs, main vs hvs he⟩
    · cases he
/-- A function with a slice among its arguments, as its ways end. -/
theorem fn_arr {R : Ending → World → Prop} {call : Caller} {keep : Nat → List Nat} {fuel : Nat} {cuts : List CutR} {endOk : Rs → Bool} {C : Code} {b off len cap : Nat} {A : Nat → Nat → Int → Int} (tabs : Tabs) (hd : (tabs.map (·.1)).Nodup) (ht : TabsIn tabs w) (hm : P.follows .mixedOrders = true) (F : Nat → Nat → List Int → Int)
    {f : FuncId} {fn : Func} (hfn : P.funcs[f]? = some fn) (hbd : fn.body = some C) {hs : List Ph} (h1 : phOne hs = true) (h : ArrIn w (phKs hs) b off len cap A) {ns : List Int} (hns : phFits hs ns) (hlen : ns.length = phSize hs) {rk : Nat} {p : Fs} (hp : FsOk (envA F (ns ++ [(len : Int), (cap : Int)]) A) p)
    (hc : ∀ ρ', SameK (phSize hs + 2) (envA F (ns ++ [(len : Int), (cap : Int)]) A) ρ' → CallOk P ρ' w (fun _ => False) (tabGl tabs 0) call)
    (hrule : ∀ ρ', SameK (phSize hs + 2) (envA F (ns ++ [(len : Int), (cap : Int)]) A) ρ' → ∀ c ∈ cuts, ∀ t ∈ c.ts, ∀ r ∈ t.rs, RuleOk ρ' r)
    (hr : ∀ c ∈ cuts, ∀ t ∈ c.ts, ∃ ct : CT, ∀ g, ct.all fun p => roundOkR P (tabGl tabs 0) call keep fuel cuts endOk (phSize hs + 2) C p c t g = true) {rs0 : List Rule} (hr0 : ∀ r ∈ rs0, RuleOk (envA F (ns ++ [(len : Int), (cap : Int)]) A) r)
    (he : (execP P (tabGl tabs 0) call keep fuel C (entrySt fn (phArgs tabs.length (phSize hs) none hs 0) (arrHp tabs (phKs hs) (phSize hs)) (p ++ (lenU (phSize hs) ++ phFacts hs 0)))).all (leafOkR (tabGl tabs 0) cuts endOk (phSize hs + 2) rs0 rk) = true)
    (hend : ∀ ρ' (β' : Bm) (r : Rs) (a : Act) (w' : World), SameK (phSize hs + 2) (envA F (ns ++ [(len : Int), (cap : Int)]) A) ρ' → Conc ρ' w (fun _ => False) (tabGl tabs 0) β' r.st a w' → endOk r = true → (∀ id, r.x ≠ .exit id) ∧ ∃ vs, resultsS P r.st fn.results.toList = some vs ∧ R (.returned ((packS vs).ev ρ' β')) w') :
    Calls P f (phVals hs ns [.slice (some ⟨b, off, none⟩) len cap]).toArray w R := by
  have hv1 : (ns ++ [(len : Int), (cap : Int)]).getD (phSize hs) 0 = len := by rw [← hlen]; simp
  have hv2 : (ns ++ [(len : Int), (cap : Int)]).getD (phSize hs + 1) 0 = cap := by rw [← hlen]; simp
  obtain ⟨a1, a2⟩ := ph_append (hs := hs) (ms := [(len : Int), (cap : Int)]) (ss := [.slice (some ⟨b, off, none⟩) len cap]) hlen
  have hf := a2.2 hns
  obtain ⟨s1, s2, s3, s4, s5⟩ := arr_start tabs hd ht h F (ns ++ [(len : Int), (cap : Int)]) (m := phSize hs) hv1 hv2
  obtain ⟨p1, p2⟩ := phArgs_spec (F := F) (A := A) (n := tabs.length + 1) (k := tabs.length) (m := phSize hs) (raw := none) (ks := phKs hs) s5 s4 (hs := hs) (i := 0) (ss := [.slice (some ⟨b, off, none⟩) len cap]) hf (phOne_ks h1) (fun j hj => by
    have e1 := phOne_one h1
    have : j < 1 := e1 ▸ hj
    obtain rfl : j = 0 := by omega
    rfl)
  rw [List.drop_zero, a1] at p1
  rw [← p1]
  exact fn_run hc hm hfn hbd s1 s2 (fsOk_app hp (fsOk_app s3 (phFacts_ok hf))) p2 hrule hr hr0 he hend
/-- .. that returns what is wanted, plain data. -/
theorem fn_arr_val {call : Caller} {keep : Nat → List Nat} {fuel : Nat} {cuts : List CutR} {C : Code} {b off len cap : Nat} {A : Nat → Nat → Int → Int} (tabs : Tabs) (hd : (tabs.map (·.1)).Nodup) (ht : TabsIn tabs w) (hm : P.follows .mixedOrders = true) (F : Nat → Nat → List Int → Int)
    {f : FuncId} {fn : Func} (hfn : P.funcs[f]? = some fn) (hbd : fn.body = some C) {hs : List Ph} (h1 : phOne hs = true) (h : ArrIn w (phKs hs) b off len cap A) {ns : List Int} (hns : phFits hs ns) (hlen : ns.length = phSize hs) {rk : Nat} {p : Fs} (hp : FsOk (envA F (ns ++ [(len : Int), (cap : Int)]) A) p)
    {want : List SV} (hw : SV.uptos (phSize hs + 2) want = true) (hfl : SV.flats want = true)
    (hc : ∀ ρ', SameK (phSize hs + 2) (envA F (ns ++ [(len : Int), (cap : Int)]) A) ρ' → CallOk P ρ' w (fun _ => False) (tabGl tabs 0) call)
    (hrule : ∀ ρ', SameK (phSize hs + 2) (envA F (ns ++ [(len : Int), (cap : Int)]) A) ρ' → ∀ c ∈ cuts, ∀ t ∈ c.ts, ∀ r ∈ t.rs, RuleOk ρ' r)
    (hr : ∀ c ∈ cuts, ∀ t ∈ c.ts, ∃ ct : CT, ∀ g, ct.all fun p => roundOkR P (tabGl tabs 0) call keep fuel cuts (wantEnd P fn want []) (phSize hs + 2) C p c t g = true) {rs0 : List Rule} (hr0 : ∀ r ∈ rs0, RuleOk (envA F (ns ++ [(len : Int), (cap : Int)]) A) r)
    (he : (execP P (tabGl tabs 0) call keep fuel C (entrySt fn (phArgs tabs.length (phSize hs) none hs 0) (arrHp tabs (phKs hs) (phSize hs)) (p ++ (lenU (phSize hs) ++ phFacts hs 0)))).all (leafOkR (tabGl tabs 0) cuts (wantEnd P fn want []) (phSize hs + 2) rs0 rk) = true) :
    Calls P f (phVals hs ns [.slice (some ⟨b, off, none⟩) len cap]).toArray w fun e w' => e = .returned (packV (SV.evs (envA F (ns ++ [(len : Int), (cap : Int)]) A) β0 want)) ∧ Below w.heap.size w w' :=
  fn_arr tabs hd ht hm F hfn hbd h1 h hns hlen hp hc hrule hr hr0 he fun ρ' β' r a w' hρ hst hend => by
    obtain ⟨q1, vs, q2, q3, _, _, q6⟩ := wantEnd_spec hρ hw hst hend
    exact ⟨q1, vs, q2, by rw [q3, SV.evs_flat β' β0 want hfl], q6.to_below⟩
theorem cells_same {K : Nat} {ρ ρ' : Env} (hρ : SameK K ρ ρ') {c : List SV} (hc : SV.uptos K c = true) {ty t : Nat} {β : Bm} {bv : Nat × Nat} {w : World} (h : (Bx.cells c ty t).lies ρ' β bv w) : (Bx.cells c ty t).lies ρ β bv w := by
  cases t with
  | zero => simp only [Bx.lies] at *; rw [← SV.evs_same hρ c hc]; exact h
  | succ s => simp only [Bx.lies] at *; rw [← SV.evs_same hρ c hc]; exact h
/-- .. that returns what is wanted, a new slice among it (box k). -/
theorem fn_arr_new {call : Caller} {keep : Nat → List Nat} {fuel : Nat} {cuts : List CutR} {C : Code} {b off len cap : Nat} {A : Nat → Nat → Int → Int} (tabs : Tabs) (hd : (tabs.map (·.1)).Nodup) (ht : TabsIn tabs w) (hm : P.follows .mixedOrders = true) (F : Nat → Nat → List Int → Int)
    {f : FuncId} {fn : Func} (hfn : P.funcs[f]? = some fn) (hbd : fn.body = some C) {hs : List Ph} (h1 : phOne hs = true) (h : ArrIn w (phKs hs) b off len cap A) {ns : List Int} (hns : phFits hs ns) (hlen : ns.length = phSize hs) {rk : Nat} {p : Fs} (hp : FsOk (envA F (ns ++ [(len : Int), (cap : Int)]) A) p)
    {want : List SV} (hw : SV.uptos (phSize hs + 2) want = true) {k ty tl : Nat} {cs : List SV} (hcs : SV.uptos (phSize hs + 2) cs = true)
    (hc : ∀ ρ', SameK (phSize hs + 2) (envA F (ns ++ [(len : Int), (cap : Int)]) A) ρ' → CallOk P ρ' w (fun _ => False) (tabGl tabs 0) call)
    (hrule : ∀ ρ', SameK (phSize hs + 2) (envA F (ns ++ [(len : Int), (cap : Int)]) A) ρ' → ∀ c ∈ cuts, ∀ t ∈ c.ts, ∀ r ∈ t.rs, RuleOk ρ' r)
    (hr : ∀ c ∈ cuts, ∀ t ∈ c.ts, ∃ ct : CT, ∀ g, ct.all fun p => roundOkR P (tabGl tabs 0) call keep fuel cuts (wantEnd P fn want [(k, .cells cs ty tl)]) (phSize hs + 2) C p c t g = true) {rs0 : List Rule} (hr0 : ∀ r ∈ rs0, RuleOk (envA F (ns ++ [(len : Int), (cap : Int)]) A) r)
    (he : (execP P (tabGl tabs 0) call keep fuel C (entrySt fn (phArgs tabs.length (phSize hs) none hs 0) (arrHp tabs (phKs hs) (phSize hs)) (p ++ (lenU (phSize hs) ++ phFacts hs 0)))).all (leafOkR (tabGl tabs 0) cuts (wantEnd P fn want [(k, .cells cs ty tl)]) (phSize hs + 2) rs0 rk) = true) :
    Calls P f (phVals hs ns [.slice (some ⟨b, off, none⟩) len cap]).toArray w fun e w' => ∃ β' : Bm, e = .returned (packV (SV.evs (envA F (ns ++ [(len : Int), (cap : Int)]) A) β' want)) ∧ (Bx.cells cs ty tl).lies (envA F (ns ++ [(len : Int), (cap : Int)]) A) β' (β' k) w' ∧ w.heap.size ≤ (β' k).1 ∧ Below w.heap.size w w' :=
  fn_arr tabs hd ht hm F hfn hbd h1 h hns hlen hp hc hrule hr hr0 he fun ρ' β' r a w' hρ hst hend => by
    obtain ⟨q1, vs, q2, q3, _, q5, q6⟩ := wantEnd_spec hρ hw hst hend
    obtain ⟨l1, l2⟩ := q5 _ (List.mem_cons_self ..)
    refine ⟨q1, vs, q2, β', by rw [q3], cells_same hρ hcs l1, ?_, q6.to_below⟩
    rcases l2 rfl with h | h
    · exact h.elim
    · exact h
/-- A law with one slice: elements (by whatever proof), none, and a nil slice. -/
theorem pays_slice_arr {okF : FuncId → Bool} {sums : Sums} {keep : FuncId → Nat → List Nat} {fuel n : Nat} {F : Nat → Nat → List Int → Int} (tabs : Tabs) (hd : (tabs.map (·.1)).Nodup) (hm : P.follows .mixedOrders = true) (hok : ∀ f, okF f = true → ∀ as w, (callFunc f as).run P w = .ok (.enter f as) w)
    {f : FuncId} {hs : List Ph} (h1 : phOne hs = true) (ht : TabsIn tabs w) (hsum : ∀ ns A, SumsOk P (envA F ns A) w (fun _ => False) sums)
    {ns : List Int} {ss : List Value} (hns : phFits hs ns) (hlen : ns.length = phSize hs) (hss : slFits w hs ss)
    (t1 : ∀ (b off len cap : Nat) (A : Nat → Nat → Int → Int), ArrIn w (phKs hs) b off len cap A → cap ≤ maxLen → Calls P f (phVals hs ns [.slice (some ⟨b, off, none⟩) len cap]).toArray w fun e w' => e = .returned (.bool true) ∧ Below w.heap.size w w')
    (t2 : (callF P (tabGl tabs 0) okF sums keep fuel n f (phArgs tabs.length (phSize hs) (some (inpNo tabs.length (phKs hs).length (phSize hs))) hs 0) (noHp tabs) (phFacts hs 0)).all isTrueF = true)
    (t3 : (callF P (tabGl tabs 0) okF sums keep fuel n f (phArgs tabs.length (phSize hs) (some rawNil) hs 0) (noHp tabs) (phFacts hs 0)).all isTrueF = true) :
    Calls P f (phVals hs ns ss).toArray w fun e w' => e = .returned (.bool true) ∧ Below w.heap.size w w' := by
  obtain ⟨hz, hks, S, hS, hget⟩ := phOne_spec h1 hss
  have hvals : phVals hs ns ss = phVals hs ns [S] := by
    have key : ∀ {hs : List Ph} {ns : List Int} {ss : List Value}, phOne hs = true → (∀ j, j < (hs.filter fun p => match p with | .sh _ => false | .sl _ => true).length → ss[j]? = some S) → phVals hs ns ss = phVals hs ns [S] := fun {hs} => by
      induction hs with
      | nil => intro ns ss h; cases h
      | cons p l ih =>
        intro ns ss h hg
        cases p with
        | sh q => simp only [phVals]; rw [ih (by simpa [phOne] using h) (fun j hj => hg j (by simpa using hj))]
        | sl ks =>
          have h0 := hg 0 (by simp)
          cases ss with
          | nil => simp at h0
          | cons s ss =>
            simp only [List.getElem?_cons_zero, Option.some.injEq] at h0
            subst h0
            simp only [phVals, List.headD_cons, List.tail_cons]
            congr 1
            have hno : ∀ {l : List Ph} {ns : List Int} {a b : List Value}, (∀ p ∈ l, ∀ ks, p ≠ .sl ks) → phVals l ns a = phVals l ns b := fun {l} => by
              induction l with
              | nil => intros; rfl
              | cons q l ih2 =>
                intro ns a b hq
                cases q with
                | sh _ => simp only [phVals]; rw [ih2 fun p hp => hq p (List.mem_cons_of_mem _ hp)]
                | sl ks => exact (hq _ (List.mem_cons_self ..) ks rfl).elim
            simp only [phOne, Bool.and_eq_true] at h
            exact hno (phOne_rest h.2)
    exact key h1 hget
  have hT := tab_heap hd ht (fun _ => False)
  have hgl : ∀ {bv : Nat × Nat}, GlOk (tabGl tabs 0) (upd (tabB tabs) tabs.length bv) (tabs.length + 1) := fun {bv} => tab_gl (fun j p hj => by
      have hjl := (List.getElem?_eq_some_iff.1 hj).1
      have : upd (tabB tabs) tabs.length bv (0 + j) = tabB tabs j := by rw [Nat.zero_add]; exact upd_ext _ _ _ j hjl
      rw [this]; simp [tabB, hj]) (by omega)
  have no : ∀ (raw : SV) (bv : Nat × Nat) (len cap : Int) (A : Nat → Nat → Int → Int), raw.ev (envA F (ns ++ [len, cap]) A) (upd (tabB tabs) tabs.length bv) = S → raw.ok (envA F (ns ++ [len, cap]) A) (tabs.length + 1) →
      (callF P (tabGl tabs 0) okF sums keep fuel n f (phArgs tabs.length (phSize hs) (some raw) hs 0) (noHp tabs) (phFacts hs 0)).all isTrueF = true →
      Calls P f (phVals hs ns ss).toArray w fun e w' => e = .returned (.bool true) ∧ Below w.heap.size w w' := fun raw bv len cap A hev hrk tr => by
    obtain ⟨a, b⟩ := ph_append (hs := hs) (ms := [len, cap]) (ss := ss) hlen
    have g2 := b.2 hns
    obtain ⟨p1, p2⟩ := phArgs_spec (F := F) (A := A) (n := tabs.length + 1) (k := tabs.length) (m := phSize hs) (raw := some raw) (ks := phKs hs) hev hrk (hs := hs) (i := 0) (ss := ss) g2 hks hget
    rw [List.drop_zero, a] at p1
    rw [← p1]
    exact pays_heap (hp := noHp tabs) hm hok ((hT (envA F (ns ++ [len, cap]) A)).pushRo (b := .gone) rfl trivial trivial (fun h => by cases h)) hgl (phFacts_ok g2) (hsum _ _) p2 (T.all_holds tr)
  have hv2 : ∀ (len cap : Int), (ns ++ [len, cap]).getD (phSize hs + 1) 0 = cap := fun len cap => by rw [← hlen]; simp
  rcases ArrIn.of_in hS with hS | ⟨b, off, cap, hS, hmax⟩ | ⟨b, off, len, cap, A, hS, hA, hmax⟩
  · exact no rawNil (0, 0) 0 0 (fun _ _ _ => 0) hS.symm trivial t3
  · refine no (inpNo tabs.length (phKs hs).length (phSize hs)) (b, off) 0 cap (fun _ _ _ => 0) ?_ ⟨Nat.lt_succ_self _, (show (Lit.int .i64 0).wf = true by decide), Int.le_refl _, ?_, by simp [E.ev]⟩ t2
    · rw [hS]
      simp only [inpNo, SV.ev, upd_same, E.ev, envA, hv2]
      simp
    · simp only [E.ev, envA, hv2]
      exact Int.natCast_nonneg _
  · rw [hvals, hS]
    exact t1 b off len cap A hA hmax
end
end Go.Proofs.YtbjficjcgpgcbaaDoor.SX
namespace Go.Proofs.YtbjficjcgpgcbaaDoor.SX
open Go Go.RowKit
set_option linter.unusedVariables false
set_option linter.unusedSimpArgs false
section
variable {P : Program} {w : World}
/-- A law with a slice of elements, all of whose ways end with true (loops are run to their ends). -/
theorem pays_arr {okF : FuncId → Bool} {sp : Spc} {keep : FuncId → Nat → List Nat} {fuel n : Nat} {b off len cap : Nat} {A : Nat → Nat → Int → Int} (tabs : Tabs) (hd : (tabs.map (·.1)).Nodup) (ht : TabsIn tabs w) (hm : P.follows .mixedOrders = true) (hok : ∀ f, okF f = true → ∀ as w, (callFunc f as).run P w = .ok (.enter f as) w) (F : Nat → Nat → List Int → Int)
    {f : FuncId} {hs : List Ph} (h1 : phOne hs = true) (h : ArrIn w (phKs hs) b off len cap A) {ns : List Int} (hns : phFits hs ns) (hlen : ns.length = phSize hs) {p : Fs} (hp : FsOk (envA F (ns ++ [(len : Int), (cap : Int)]) A) p)
    (hsp : SpecOk P (envA F (ns ++ [(len : Int), (cap : Int)]) A) w (fun _ => False) (tabGl tabs 0) sp)
    (he : (callG P (tabGl tabs 0) okF sp keep fuel n f (phArgs tabs.length (phSize hs) none hs 0) (arrHp tabs (phKs hs) (phSize hs)) (p ++ (lenU (phSize hs) ++ phFacts hs 0))).all isTrueF = true) :
    Calls P f (phVals hs ns [.slice (some ⟨b, off, none⟩) len cap]).toArray w fun e w' => e = .returned (.bool true) ∧ Below w.heap.size w w' := by
  have hv1 : (ns ++ [(len : Int), (cap : Int)]).getD (phSize hs) 0 = len := by rw [← hlen]; simp
  have hv2 : (ns ++ [(len : Int), (cap : Int)]).getD (phSize hs + 1) 0 = cap := by rw [← hlen]; simp
  obtain ⟨a1, a2⟩ := ph_append (hs := hs) (ms := [(len : Int), (cap : Int)]) (ss := [.slice (some ⟨b, off, none⟩) len cap]) hlen
  have hf := a2.2 hns
  obtain ⟨s1, s2, s3, s4, s5⟩ := arr_start tabs hd ht h F (ns ++ [(len : Int), (cap : Int)]) (m := phSize hs) hv1 hv2
  obtain ⟨p1, p2⟩ := phArgs_spec (F := F) (A := A) (n := tabs.length + 1) (k := tabs.length) (m := phSize hs) (raw := none) (ks := phKs hs) s5 s4 (hs := hs) (i := 0) (ss := [.slice (some ⟨b, off, none⟩) len cap]) hf (phOne_ks h1) (fun j hj => by
    have e1 := phOne_one h1
    have : j < 1 := e1 ▸ hj
    obtain rfl : j = 0 := by omega
    rfl)
  rw [List.drop_zero, a1] at p1
  rw [← p1]
  refine ((callG_run (gl := tabGl tabs 0) (keep := keep) (fuel := fuel) hm hok hsp n f _ _ _ _ w (fun v w' => v = .bool true ∧ Below w.heap.size w w') s1 (fsOk_app hp (fsOk_app s3 (phFacts_ok hf))) p2 s2
    (T.holds_mono (fun o ho β' w' _ _ _ hh hf _ => ?_) (T.all_holds he))).2).mono fun e w' ⟨v, he, hv, hb⟩ => ⟨by rw [he, hv], hb⟩
  exact ⟨isTrueF_spec hf ho β', hh.kept.to_below⟩
/-- .. and whose loops are cut; 'ax' (of the first variables, and names) is known all along. -/
theorem pays_arr_cutX {ax : Fs} {call : Caller} {keep : Nat → List Nat} {fuel : Nat} {cuts : List CutR} {C : Code} {b off len cap : Nat} {A : Nat → Nat → Int → Int} (tabs : Tabs) (hd : (tabs.map (·.1)).Nodup) (ht : TabsIn tabs w) (hm : P.follows .mixedOrders = true) (F : Nat → Nat → List Int → Int)
    {f : FuncId} {fn : Func} (hfn : P.funcs[f]? = some fn) (hbd : fn.body = some C) {hs : List Ph} (h1 : phOne hs = true) (h : ArrIn w (phKs hs) b off len cap A) {ns : List Int} (hns : phFits hs ns) (hlen : ns.length = phSize hs) {rk : Nat} {p : Fs} (hp : FsOk (envA F (ns ++ [(len : Int), (cap : Int)]) A) p)
    (hax : FsOk (envA F (ns ++ [(len : Int), (cap : Int)]) A) ax) (hup : (ax.all fun q => q.1.upto (phSize hs + 2)) = true)
    (hc : ∀ ρ', SameK (phSize hs + 2) (envA F (ns ++ [(len : Int), (cap : Int)]) A) ρ' → CallOk P ρ' w (fun _ => False) (tabGl tabs 0) call)
    (hrule : ∀ ρ', SameK (phSize hs + 2) (envA F (ns ++ [(len : Int), (cap : Int)]) A) ρ' → ∀ c ∈ cuts, ∀ t ∈ c.ts, ∀ r ∈ t.rs, RuleOk ρ' r)
    (hr : ∀ c ∈ cuts, ∀ t ∈ c.ts, ∃ ct : CT, ∀ g, ct.all fun p => roundOkR P (tabGl tabs 0) call keep fuel cuts (lawEnd P fn) (phSize hs + 2) C (p ++ ax) c t g = true) {rs0 : List Rule} (hr0 : ∀ r ∈ rs0, RuleOk (envA F (ns ++ [(len : Int), (cap : Int)]) A) r)
    (he : (execP P (tabGl tabs 0) call keep fuel C (entrySt fn (phArgs tabs.length (phSize hs) none hs 0) (arrHp tabs (phKs hs) (phSize hs)) ((p ++ ax) ++ (lenU (phSize hs) ++ phFacts hs 0)))).all (leafOkR (tabGl tabs 0) cuts (lawEnd P fn) (phSize hs + 2) rs0 rk) = true) :
    Calls P f (phVals hs ns [.slice (some ⟨b, off, none⟩) len cap]).toArray w fun e w' => e = .returned (.bool true) ∧ Below w.heap.size w w' := by
  have hv1 : (ns ++ [(len : Int), (cap : Int)]).getD (phSize hs) 0 = len := by rw [← hlen]; simp
  have hv2 : (ns ++ [(len : Int), (cap : Int)]).getD (phSize hs + 1) 0 = cap := by rw [← hlen]; simp
  obtain ⟨a1, a2⟩ := ph_append (hs := hs) (ms := [(len : Int), (cap : Int)]) (ss := [.slice (some ⟨b, off, none⟩) len cap]) hlen
  have hf := a2.2 hns
  obtain ⟨s1, s2, s3, s4, s5⟩ := arr_start tabs hd ht h F (ns ++ [(len : Int), (cap : Int)]) (m := phSize hs) hv1 hv2
  obtain ⟨p1, p2⟩ := phArgs_spec (F := F) (A := A) (n := tabs.length + 1) (k := tabs.length) (m := phSize hs) (raw := none) (ks := phKs hs) s5 s4 (hs := hs) (i := 0) (ss := [.slice (some ⟨b, off, none⟩) len cap]) hf (phOne_ks h1) (fun j hj => by
    have e1 := phOne_one h1
    have : j < 1 := e1 ▸ hj
    obtain rfl : j = 0 := by omega
    rfl)
  rw [List.drop_zero, a1] at p1
  rw [← p1]
  refine fn_runX (ax := ax) (fun ρ' hρ q hq => ?_) hc hm hfn hbd s1 s2 (fsOk_app (fsOk_app hp hax) (fsOk_app s3 (phFacts_ok hf))) p2 hrule hr hr0 he fun ρ' β' r a w' hρ hst hend => lawEnd_spec hst hend
  rw [E.ev_same hρ q.1 (List.all_eq_true.1 hup q hq)]
  exact hax q hq
/-- .. and whose loops are cut. -/
theorem pays_arr_cut {call : Caller} {keep : Nat → List Nat} {fuel : Nat} {cuts : List CutR} {C : Code} {b off len cap : Nat} {A : Nat → Nat → Int → Int} (tabs : Tabs) (hd : (tabs.map (·.1)).Nodup) (ht : TabsIn tabs w) (hm : P.follows .mixedOrders = true) (F : Nat → Nat → List Int → Int)
    {f : FuncId} {fn : Func} (hfn : P.funcs[f]? = some fn) (hbd : fn.body = some C) {hs : List Ph} (h1 : phOne hs = true) (h : ArrIn w (phKs hs) b off len cap A) {ns : List Int} (hns : phFits hs ns) (hlen : ns.length = phSize hs) {rk : Nat} {p : Fs} (hp : FsOk (envA F (ns ++ [(len : Int), (cap : Int)]) A) p)
    (hc : ∀ ρ', SameK (phSize hs + 2) (envA F (ns ++ [(len : Int), (cap : Int)]) A) ρ' → CallOk P ρ' w (fun _ => False) (tabGl tabs 0) call)
    (hrule : ∀ ρ', SameK (phSize hs + 2) (envA F (ns ++ [(len : Int), (cap : Int)]) A) ρ' → ∀ c ∈ cuts, ∀ t ∈ c.ts, ∀ r ∈ t.rs, RuleOk ρ' r)
    (hr : ∀ c ∈ cuts, ∀ t ∈ c.ts, ∃ ct : CT, ∀ g, ct.all fun p => roundOkR P (tabGl tabs 0) call keep fuel cuts (lawEnd P fn) (phSize hs + 2) C p c t g = true) {rs0 : List Rule} (hr0 : ∀ r ∈ rs0, RuleOk (envA F (ns ++ [(len : Int), (cap : Int)]) A) r)
    (he : (execP P (tabGl tabs 0) call keep fuel C (entrySt fn (phArgs tabs.length (phSize hs) none hs 0) (arrHp tabs (phKs hs) (phSize hs)) (p ++ (lenU (phSize hs) ++ phFacts hs 0)))).all (leafOkR (tabGl tabs 0) cuts (lawEnd P fn) (phSize hs + 2) rs0 rk) = true) :
    Calls P f (phVals hs ns [.slice (some ⟨b, off, none⟩) len cap]).toArray w fun e w' => e = .returned (.bool true) ∧ Below w.heap.size w w' :=
  fn_arr tabs hd ht hm F hfn hbd h1 h hns hlen hp hc hrule hr hr0 he fun ρ' β' r a w' hρ hst hend => lawEnd_spec hst hend
end
end Go.Proofs.YtbjficjcgpgcbaaDoor.SX
