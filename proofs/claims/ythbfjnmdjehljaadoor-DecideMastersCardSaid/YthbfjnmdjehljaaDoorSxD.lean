/- Calls whose contracts make memory; rules; loops that keep some variables. Of no program. -/
import Derived.Test.YthbfjnmdjehljaaDoorSxH
import Derived.Test.YthbfjnmdjehljaaDoorSxS
namespace Go.Proofs.YthbfjnmdjehljaaDoor.SX
open Go Go.RowKit
set_option linter.unusedVariables false
set_option linter.unusedSimpArgs false

/-! ### Rules: what follows of what is known, by a proof in Lean -/
/-- A fact, in canonical form. -/
def normF (fs : Fs) : E → E
  | .bin .eq k a b => .bin .eq k (canon fs (a.deep fs)) (canon fs (b.deep fs))
  | c => c.deep fs
def learnAll : Fs → Fs → Fs
  | [], fs => fs
  | (c, b) :: l, fs => match normF fs c with
    | .app f j a => (.app f j a, b) :: learnAll l fs
    | .bin .eq k (.app f j a) e => (.bin .eq k (.app f j a) e, b) :: learnAll l fs
    | c' => learn (learnAll l fs) c' b
structure Rule where
  prem : Fs
  con : Fs
def knows (fs : Fs) : Fs → Bool
  | [] => true
  | (c, b) :: l => (decideD fs c == some b) && knows fs l
def addRules : Fs → List Rule → Fs
  | fs, [] => fs
  | fs, r :: l => match knows fs r.prem with
    | true => addRules (learnAll r.con fs) l
    | false => addRules fs l
def RuleOk (ρ : Env) (r : Rule) : Prop := FsOk ρ r.prem → FsOk ρ r.con
section
variable {ρ : Env}
theorem normF_ev {fs : Fs} (hf : FsOk ρ fs) (c : E) : (normF fs c).ev ρ = c.ev ρ := by
  unfold normF
  split
  · simp only [E.ev, canon_ev hf, E.deep_ev hf]
  · exact E.deep_ev hf _
theorem learnAll_ok : ∀ {l fs : Fs}, FsOk ρ l → FsOk ρ fs → FsOk ρ (learnAll l fs)
  | [], fs, _, h => h
  | (c, b) :: l, fs, hl, h => by
    have ih := learnAll_ok (l := l) (fun p hp => hl p (List.mem_cons_of_mem _ hp)) h
    have h1 : c.ev ρ ≠ 0 ↔ b = true := hl (c, b) (List.mem_cons_self ..)
    have h2 : (normF fs c).ev ρ ≠ 0 ↔ b = true := by rw [normF_ev h]; exact h1
    have hc : ∀ x : E, normF fs c = x → FsOk ρ ((x, b) :: learnAll l fs) := fun x hx p hp => by
      rcases List.mem_cons.1 hp with rfl | hp
      · rw [hx] at h2; exact h2
      · exact ih p hp
    unfold learnAll
    split
    · rename_i hx; exact hc _ hx
    · rename_i hx; exact hc _ hx
    · rename_i hx; exact learn_ok ih h2
theorem knows_ok {fs : Fs} (hf : FsOk ρ fs) : ∀ {l : Fs}, knows fs l = true → FsOk ρ l
  | [], _ => fun p hp => by cases hp
  | (c, b) :: l, h => by
    simp only [knows, Bool.and_eq_true, beq_iff_eq] at h
    intro p hp
    rcases List.mem_cons.1 hp with rfl | hp
    · have := decideD_spec hf h.1
      show c.ev ρ ≠ 0 ↔ b = true
      rw [← this]
      simp
    · exact knows_ok hf h.2 p hp
theorem addRules_ok : ∀ {rs : List Rule} {fs : Fs}, FsOk ρ fs → (∀ r ∈ rs, RuleOk ρ r) → FsOk ρ (addRules fs rs)
  | [], fs, hf, _ => hf
  | r :: rs, fs, hf, h => by
    unfold addRules
    split
    · rename_i hk
      exact addRules_ok (learnAll_ok (h r (List.mem_cons_self ..) (knows_ok hf hk)) hf) fun r' hr' => h r' (List.mem_cons_of_mem _ hr')
    · exact addRules_ok hf fun r' hr' => h r' (List.mem_cons_of_mem _ hr')
end

/-! ### Calls by contracts -/
abbrev Spc := FuncId → List SV → Hp → Fs → Option Out
def SpecOk (P : Program) (ρ : Env) (w0 : World) (M : Nat → Prop) (gl : Gl) (sp : Spc) : Prop := ∀ (f : FuncId) (args : List SV) (hp : Hp) (fs : Fs) (o : Out), sp f args hp fs = some o →
  ∀ (β : Bm) (w : World), Heap ρ w0 M β hp w → FsOk ρ fs → SV.oks ρ hp.n args → GlOk gl β hp.n →
    Calls P f (SV.evs ρ β args).toArray w fun e w' => ∃ β', Ext hp.n β β' ∧ hp.n ≤ o.hp.n ∧ Stay hp o.hp ∧ Heap ρ w0 M β' o.hp w' ∧ FsOk ρ o.fs ∧ o.v.ok ρ o.hp.n ∧ e = .returned (o.v.ev ρ β')
def noSpec : Spc := fun _ _ _ _ => none
def sumSpec (sums : Sums) : Spc := fun f args hp fs => match sums f args with
  | some v0 => match sums f (canonL fs args) with
    | some v => some ⟨v, hp, fs⟩
    | none => some ⟨v0, hp, fs⟩
  | none => none
def orSpec (a b : Spc) : Spc := fun f args hp fs => match a f args hp fs with
  | some o => some o
  | none => b f args hp fs
def callG (P : Program) (gl : Gl) (okF : FuncId → Bool) (sp : Spc) (keep : FuncId → Nat → List Nat) (fuel : Nat) : Nat → Caller
  | 0, _, _, _, _ => .bad 150
  | n + 1, f, args, hp, fs =>
    if okF f then
      match sp f args hp fs with
      | some o => .ok o
      | none => match P.funcs[f]? with
        | some fn => match fn.body with
          | some c => (exec P gl (callG P gl okF sp keep fuel n) (keep f) fuel c { sz := args.length + (fn.ntmps - args.length), tmps := fun i => args.getD i undefS, hp := hp, facts := fs }).bind fun r => match r.x with
            | .exit _ => .bad 151
            | _ => match resultsS P r.st fn.results.toList with
              | some vs => .ok ⟨packS vs, r.st.hp, r.st.facts⟩
              | none => .bad 152
          | none => .bad 153
        | none => .bad 154
    else .bad 155
section
variable {P : Program} {ρ : Env} {w0 : World} {M : Nat → Prop} {gl : Gl} {w : World} {hp : Hp} {fs : Fs}
theorem noSpec_ok : SpecOk P ρ w0 M gl noSpec := fun _ _ _ _ _ h => by cases h
theorem sumSpec_ok {sums : Sums} (hsum : SumsOk P ρ w0 M sums) : SpecOk P ρ w0 M gl (sumSpec sums) := fun f args hp fs o h β w hh hf ha hg => by
  have fin : ∀ v : SV, o = ⟨v, hp, fs⟩ → (v.ok ρ hp.n ∧ ∀ w, Kept w0 M w → Calls P f (SV.evs ρ β args).toArray w fun e w' => e = .returned (v.ev ρ β) ∧ Below w.heap.size w w') → Calls P f (SV.evs ρ β args).toArray w fun e w' => ∃ β', Ext hp.n β β' ∧ hp.n ≤ o.hp.n ∧ Stay hp o.hp ∧ Heap ρ w0 M β' o.hp w' ∧ FsOk ρ o.fs ∧ o.v.ok ρ o.hp.n ∧ e = .returned (o.v.ev ρ β') := fun v ho hv => by
    subst ho
    exact (hv.2 w hh.kept).mono fun e w' ⟨he, hb⟩ => ⟨β, Ext.refl _ _, Nat.le_refl _, Stay.refl _, hh.below hb, hf, hv.1, he⟩
  unfold sumSpec at h
  split at h
  · rename_i v0 hv0
    split at h
    · rename_i v hv
      obtain ⟨c1, c2⟩ := canonL_spec hf β hp.n args
      have := hsum f _ v hv hp.n β (c2 ha)
      rw [c1] at this
      exact fin v (Option.some.inj h).symm this
    · exact fin v0 (Option.some.inj h).symm (hsum f args v0 hv0 hp.n β ha)
  · cases h
theorem orSpec_ok {a b : Spc} (h1 : SpecOk P ρ w0 M gl a) (h2 : SpecOk P ρ w0 M gl b) : SpecOk P ρ w0 M gl (orSpec a b) := fun f args hp fs o h => by
  unfold orSpec at h
  split at h
  · rename_i o' ho
    obtain rfl := Option.some.inj h
    exact h1 f args hp fs o' ho
  · exact h2 f args hp fs o h
theorem callG_run {okF : FuncId → Bool} {sp : Spc} {keep : FuncId → Nat → List Nat} {fuel : Nat} (hm : P.follows .mixedOrders = true) (hok : ∀ f, okF f = true → ∀ as w, (callFunc f as).run P w = .ok (.enter f as) w) (hsp : SpecOk P ρ w0 M gl sp) :
    ∀ n : Nat, CallOk P ρ w0 M gl (callG P gl okF sp keep fuel n)
  | 0 => fun f args hp fs β w K hh hf ha hg h => h.elim
  | n + 1 => fun f args hp fs β w K hh hf ha hg h => by
    unfold callG at h
    split at h
    · rename_i hof
      refine ⟨hok f hof, ?_⟩
      split at h
      · rename_i o ho
        refine (hsp f args hp fs o ho β w hh hf ha hg).mono fun e w' ⟨β', h1, h2, h3, h4, h5, h6, h7⟩ => ⟨_, h7, ?_⟩
        exact h β' w' h1 h2 h3 h4 h5 h6
      · split at h
        · rename_i fn hfn
          split at h
          · rename_i c hb
            unfold Goes at h
            rw [T.holds_bind] at h
            refine calls_of_wp hfn hb ?_
            refine exec_run (callG_run hm hok hsp n) hm c β _ _ w _ (entry_conc (fn := fn) hh hf ha hg) (T.holds_mono (fun r hr => ?_) h)
            obtain ⟨x, st'⟩ := r
            intro β' a' w' hx hl hs hc'
            cases x with
            | exit id => exact hr.elim
            | normal =>
              simp only at hr
              split at hr
              · rename_i vs hvs
                obtain ⟨r1, r2⟩ := results_run hc' hvs
                exact ⟨hc'.defers, _, r1, _, rfl, hr β' w' hx hl hs hc'.heap hc'.facts r2⟩
              · exact hr.elim
            | ret =>
              simp only at hr
              split at hr
              · rename_i vs hvs
                obtain ⟨r1, r2⟩ := results_run hc' hvs
                exact ⟨hc'.defers, _, r1, _, rfl, hr β' w' hx hl hs hc'.heap hc'.facts r2⟩
              · exact hr.elim
          · exact h.elim
        · exact h.elim
    · exact h.elim
end

/-! ### Loops: templates with their measures and rules; the first K variables stay -/
structure TmR where
  τ : Tm
  mea : E
  rs : List Rule
structure CutR where
  p : Path
  rank : Nat
  ts : List TmR
def SameK (K : Nat) (ρ ρ' : Env) : Prop := ρ'.fn = ρ.fn ∧ ρ'.arr = ρ.arr ∧ ∀ i, i < K → ρ'.v i = ρ.v i
def fixedOk (K : Nat) (fs : Fs) (σ : Nat → E) : Bool := (List.range K).all fun i => eqF fs (σ i) (.var i)
def withR (rs : List Rule) (st : St) : St := { st with facts := addRules st.facts rs }
def fitR (gl : Gl) (K : Nat) (τ : Tm) (st : St) : Bool := fixedOk K st.facts (τ.solve st) && τ.fit gl (τ.solve st) st
def leafOkR (gl : Gl) (cuts : List CutR) (endOk : Rs → Bool) (K : Nat) (rs : List Rule) (rk : Nat) : Sp → Bool
  | .done r => endOk ⟨r.x, withR rs r.st⟩ || noWay (addRules r.st.facts rs)
  | .loop p st => (cuts.any fun c => (c.p == p) && decide (c.rank < rk) && c.ts.any fun t => fitR gl K t.τ (withR rs st)) || noWay (addRules st.facts rs)
def backOkR (gl : Gl) (K : Nat) (c : CutR) (t : TmR) (st : St) : Bool :=
  (c.ts.any fun t' => fitR gl K t'.τ (withR t.rs st) && (decideE (withR t.rs st).facts (.bin .lt .i64 (t'.mea.sub (t'.τ.solve (withR t.rs st))) t.mea) == some true)) || noWay (addRules st.facts t.rs)
def lfOkR (gl : Gl) (cuts : List CutR) (endOk : Rs → Bool) (K : Nat) (c : CutR) (t : TmR) : Lf → Bool
  | .back st => backOkR gl K c t st
  | .fwd s => leafOkR gl cuts endOk K t.rs c.rank s
def roundOkR (P : Program) (gl : Gl) (call : Caller) (keep : Nat → List Nat) (fuel : Nat) (cuts : List CutR) (endOk : Rs → Bool) (K : Nat) (C : Code) (p : Fs) (c : CutR) (t : TmR) (g : Nat → Value) : Bool :=
  match bodyAt C c.p with
  | some b => (decideE (t.τ.stP g p).facts (.bin .lt .i64 t.mea (.lit 0)) == some false) && (roundT P gl call keep fuel C c.p b (t.τ.stP g p)).all (lfOkR gl cuts endOk K c t)
  | none => false
section
variable {P : Program} {ρ : Env} {w0 : World} {M : Nat → Prop} {gl : Gl} {call : Caller} {keep : Nat → List Nat} {fuel : Nat} {cuts : List CutR} {endOk : Rs → Bool} {C : Code} {Q : Exit → Act → World → Prop} {K : Nat}
theorem SameK.refl (ρ : Env) : SameK K ρ ρ := ⟨rfl, rfl, fun _ _ => rfl⟩
theorem SameK.sub {ρ' : Env} {fs : Fs} {σ : Nat → E} (h : SameK K ρ ρ') (hf : FsOk ρ' fs) (hx : fixedOk K fs σ = true) : SameK K ρ (envSub ρ' σ) :=
  ⟨h.1, h.2.1, fun i hi => by
    have := List.all_eq_true.1 hx i (List.mem_range.2 hi)
    exact (eqF_spec hf this).trans (h.2.2 i hi)⟩
theorem lt_of_decide {fs : Fs} (hf : FsOk ρ fs) {a b : E} (h : decideE fs (.bin .lt .i64 a b) = some true) : a.ev ρ < b.ev ρ := by
  have h1 : (if a.ev ρ < b.ev ρ then (1 : Int) else 0) ≠ 0 := of_decide_eq_true (decideE_spec hf h)
  by_cases hl : a.ev ρ < b.ev ρ
  · exact hl
  · rw [if_neg hl] at h1; exact absurd rfl h1
theorem ge_of_decide {fs : Fs} (hf : FsOk ρ fs) {a b : E} (h : decideE fs (.bin .lt .i64 a b) = some false) : b.ev ρ ≤ a.ev ρ := by
  have h1 : ¬ (if a.ev ρ < b.ev ρ then (1 : Int) else 0) ≠ 0 := of_decide_eq_false (decideE_spec hf h)
  by_cases hl : a.ev ρ < b.ev ρ
  · rw [if_pos hl] at h1; simp at h1
  · omega
theorem withR_conc {rs : List Rule} {st : St} {β : Bm} {a : Act} {w : World} (h : Conc ρ w0 M gl β st a w) (hr : ∀ r ∈ rs, RuleOk ρ r) : Conc ρ w0 M gl β (withR rs st) a w :=
  h.facts_to (addRules_ok h.facts hr)
set_option maxHeartbeats 1000000 in
theorem loopsR_run (hc : ∀ ρ', SameK K ρ ρ' → CallOk P ρ' w0 M gl call) (hm : P.follows .mixedOrders = true)
    (hend : ∀ ρ' (β : Bm) (r : Rs) (a : Act) (w : World), SameK K ρ ρ' → Conc ρ' w0 M gl β r.st a w → endOk r = true → Q r.x.to a w)
    (hrule : ∀ ρ', SameK K ρ ρ' → ∀ c ∈ cuts, ∀ t ∈ c.ts, ∀ r ∈ t.rs, RuleOk ρ' r)
    (hr : ∀ c ∈ cuts, ∀ t ∈ c.ts, ∃ ct : CT, ∀ g, ct.all fun p => roundOkR P gl call keep fuel cuts endOk K C p c t g = true) :
    ∀ (rk : Nat) (ρ' : Env) (β : Bm) (p : Path) (st : St) (a : Act) (w : World), SameK K ρ ρ' → (cuts.any fun c => (c.p == p) && decide (c.rank < rk) && c.ts.any fun t => fitR gl K t.τ st) = true → Conc ρ' w0 M gl β st a w → LoopAt P C p Q a w
  | 0, ρ', β, p, st, a, w, hρ, h, hst => by
    simp only [List.any_eq_true, Bool.and_eq_true, decide_eq_true_eq] at h
    obtain ⟨c, _, ⟨_, h⟩, _⟩ := h
    omega
  | rk + 1, ρ', β, p, st, a, w, hρ, h, hst => by
    simp only [List.any_eq_true, Bool.and_eq_true, decide_eq_true_eq] at h
    obtain ⟨c, hcm, ⟨hp, hrk⟩, t, ht, hfit⟩ := h
    obtain rfl : c.p = p := by simpa using hp
    obtain ⟨ct0, hct0⟩ := hr c hcm t ht
    obtain ⟨p0, _, h0⟩ := CT.some ρ' (hct0 (fun _ => undef))
    unfold roundOkR at h0
    split at h0
    rotate_left
    · cases h0
    rename_i b hb
    refine ⟨b, hb, ?_⟩
    -- the measure is no negative number
    have pos : ∀ (ρ'' : Env) (t : TmR) (g : Nat → Value) (β : Bm) (a : Act) (w : World), t ∈ c.ts → Conc ρ'' w0 M gl β (t.τ.st g) a w → 0 ≤ t.mea.ev ρ'' := fun ρ'' t g β a w ht hst => by
      obtain ⟨ct1, hct1⟩ := hr c hcm t ht
      obtain ⟨p1, hp1, h1⟩ := CT.some ρ'' (hct1 g)
      unfold roundOkR at h1
      rw [hb] at h1
      simp only [Bool.and_eq_true, beq_iff_eq] at h1
      exact ge_of_decide (fsOk_app hp1 hst.facts) h1.1
    -- round by round
    have key : ∀ (m : Nat) (ρ'' : Env) (t : TmR) (g : Nat → Value) (β : Bm) (a : Act) (w : World), SameK K ρ ρ'' → t ∈ c.ts → Conc ρ'' w0 M gl β (t.τ.st g) a w → (t.mea.ev ρ'').toNat < m → Code.rounds P b (postAt P C c.p Q) m a w := by
      intro m
      induction m with
      | zero => intro ρ'' t g β a w _ _ _ hlt; omega
      | succ m ih =>
        intro ρ'' t g β a w hρ'' ht hst hlt
        have hrl := hrule ρ'' hρ'' c hcm t ht
        have hpos' := pos ρ'' t g β a w ht hst
        obtain ⟨ct1, hct1⟩ := hr c hcm t ht
        obtain ⟨p1, hp1, h1⟩ := CT.some ρ'' (hct1 g)
        replace hst : Conc ρ'' w0 M gl β (t.τ.stP g p1) a w := hst.facts_to (fsOk_app hp1 hst.facts)
        unfold roundOkR at h1
        rw [hb] at h1
        simp only [Bool.and_eq_true, beq_iff_eq] at h1
        have h2 := T.all_holds (ρ := ρ'') h1.2
        unfold roundT at h2
        rw [T.holds_bind] at h2
        rw [rounds_succ]
        refine execP_run (hc ρ'' hρ'') hm b β _ a w _ hst (T.holds_mono (fun s hs => ?_) h2)
        cases s with
        | loop _ _ => exact hs.elim
        | done r =>
          obtain ⟨x, st'⟩ := r
          have fwd : ∀ x', x' = x → x' ≠ .normal → T.holds ρ'' ((resumeP P gl call keep fuel C c.p ⟨x', st'⟩).map Lf.fwd) (fun lf => lfOkR gl cuts endOk K c t lf = true) → Ends ρ'' w0 M gl β (t.τ.st g).hp (Exit.then (Code.rounds P b (postAt P C c.p Q) m) (postAt P C c.p Q)) ⟨x', st'⟩ := fun x' hx' hne hs => by
            intro β' a' w' hx hl hss hc'
            rw [T.holds_map'] at hs
            have := resumeP_run (hc ρ'' hρ'') hm C c.p β' ⟨x', st'⟩ a' w' Q hc' (T.holds_mono (fun s' hs' => ?_) hs)
            · cases x' with
              | normal => exact absurd rfl hne
              | exit id => exact this
              | ret => exact this
            · cases s' with
              | done r' =>
                intro β2 a2 w2 _ _ _ hc2
                have hs2 : (endOk ⟨r'.x, withR t.rs r'.st⟩ || noWay (addRules r'.st.facts t.rs)) = true := hs'
                have hc3 := withR_conc hc2 hrl
                rw [Bool.or_eq_true] at hs2
                rcases hs2 with hs2 | hs2
                · exact hend ρ'' β2 ⟨r'.x, withR t.rs r'.st⟩ a2 w2 hρ'' hc3 hs2
                · exact (noWay_spec hc3.facts hs2).elim
              | loop p' st2 =>
                intro β2 a2 w2 _ _ _ hc2
                have hs2 : ((cuts.any fun c' => (c'.p == p') && decide (c'.rank < c.rank) && c'.ts.any fun t' => fitR gl K t'.τ (withR t.rs st2)) || noWay (addRules st2.facts t.rs)) = true := hs'
                have hc3 := withR_conc hc2 hrl
                rw [Bool.or_eq_true] at hs2
                rcases hs2 with hs2 | hs2
                · refine loopsR_run hc hm hend hrule hr rk ρ'' β2 p' (withR t.rs st2) a2 w2 hρ'' ?_ hc3
                  simp only [List.any_eq_true, Bool.and_eq_true, decide_eq_true_eq] at hs2 ⊢
                  obtain ⟨c', hcm', ⟨hp', hrk'⟩, hx'⟩ := hs2
                  exact ⟨c', hcm', ⟨hp', by omega⟩, hx'⟩
                · exact (noWay_spec hc3.facts hs2).elim
          cases x with
          | normal =>
            intro β' a' w' hx hl hss hc'
            have hs' : backOkR gl K c t st' = true := hs
            have hc3 := withR_conc hc' hrl
            unfold backOkR at hs'
            rw [Bool.or_eq_true] at hs'
            rcases hs' with hs' | hs'
            rotate_left
            · exact (noWay_spec hc3.facts hs').elim
            simp only [List.any_eq_true, Bool.and_eq_true, beq_iff_eq] at hs'
            obtain ⟨t', ht', hfit', hdec⟩ := hs'
            unfold fitR at hfit'
            rw [Bool.and_eq_true] at hfit'
            have hc2 := Tm.fit_run hc3 hfit'.2
            have hd := lt_of_decide hc3.facts hdec
            rw [E.sub_ev] at hd
            have hp3' := pos _ t' _ _ a' w' ht' hc2
            exact ih _ t' _ _ a' w' (hρ''.sub hc3.facts hfit'.1) ht' hc2 (by omega)
          | exit id => exact fwd (.exit id) rfl (by intro h; cases h) hs
          | ret => exact fwd .ret rfl (by intro h; cases h) hs
    unfold fitR at hfit
    rw [Bool.and_eq_true] at hfit
    exact wp_loop_rounds ((t.mea.ev (envSub ρ' (t.τ.solve st))).toNat + 1) (key _ _ t _ _ a w (hρ.sub hst.facts hfit.1) ht (Tm.fit_run hst hfit.2) (by omega))
theorem codeR_run (hc : ∀ ρ', SameK K ρ ρ' → CallOk P ρ' w0 M gl call) (hm : P.follows .mixedOrders = true)
    (hend : ∀ ρ' (β : Bm) (r : Rs) (a : Act) (w : World), SameK K ρ ρ' → Conc ρ' w0 M gl β r.st a w → endOk r = true → Q r.x.to a w)
    (hrule : ∀ ρ', SameK K ρ ρ' → ∀ c ∈ cuts, ∀ t ∈ c.ts, ∀ r ∈ t.rs, RuleOk ρ' r)
    (hr : ∀ c ∈ cuts, ∀ t ∈ c.ts, ∃ ct : CT, ∀ g, ct.all fun p => roundOkR P gl call keep fuel cuts endOk K C p c t g = true) {rs0 : List Rule} (hr0 : ∀ r ∈ rs0, RuleOk ρ r) {rk : Nat} {β : Bm} {st : St} {a : Act} {w : World} (hst : Conc ρ w0 M gl β st a w)
    (h : (execP P gl call keep fuel C st).holds ρ fun s => leafOkR gl cuts endOk K rs0 rk s = true) : C.wp P Q a w := by
  refine execP_run (hc ρ (SameK.refl ρ)) hm C β st a w Q hst (T.holds_mono (fun s hs => ?_) h)
  cases s with
  | done r =>
    intro β2 a2 w2 _ _ _ hc2
    have hs2 : (endOk ⟨r.x, withR rs0 r.st⟩ || noWay (addRules r.st.facts rs0)) = true := hs
    have hc3 := withR_conc hc2 hr0
    rw [Bool.or_eq_true] at hs2
    rcases hs2 with hs2 | hs2
    · exact hend ρ β2 ⟨r.x, withR rs0 r.st⟩ a2 w2 (SameK.refl ρ) hc3 hs2
    · exact (noWay_spec hc3.facts hs2).elim
  | loop p st' =>
    intro β2 a2 w2 _ _ _ hc2
    have hs2 : ((cuts.any fun c' => (c'.p == p) && decide (c'.rank < rk) && c'.ts.any fun t' => fitR gl K t'.τ (withR rs0 st')) || noWay (addRules st'.facts rs0)) = true := hs
    have hc3 := withR_conc hc2 hr0
    rw [Bool.or_eq_true] at hs2
    rcases hs2 with hs2 | hs2
    · exact loopsR_run hc hm hend hrule hr rk ρ β2 p (withR rs0 st') a2 w2 (SameK.refl ρ) hs2 hc3
    · exact (noWay_spec hc3.facts hs2).elim
/-- A function whose ways all end as 'endOk' says. -/
theorem fn_run {R : Ending → World → Prop} {w : World} {β : Bm} {hp : Hp} (hc : ∀ ρ', SameK K ρ ρ' → CallOk P ρ' w0 M gl call) (hm : P.follows .mixedOrders = true) {f : FuncId} {fn : Func} (hfn : P.funcs[f]? = some fn) (hbd : fn.body = some C) {args : List SV} {fs0 : Fs} {rk : Nat} (hh : Heap ρ w0 M β hp w) (hg : GlOk gl β hp.n) (hfs : FsOk ρ fs0)
    (hargs : SV.oks ρ hp.n args)
    (hrule : ∀ ρ', SameK K ρ ρ' → ∀ c ∈ cuts, ∀ t ∈ c.ts, ∀ r ∈ t.rs, RuleOk ρ' r)
    (hr : ∀ c ∈ cuts, ∀ t ∈ c.ts, ∃ ct : CT, ∀ g, ct.all fun p => roundOkR P gl call keep fuel cuts endOk K C p c t g = true) {rs0 : List Rule} (hr0 : ∀ r ∈ rs0, RuleOk ρ r)
    (h : (execP P gl call keep fuel C (entrySt fn args hp fs0)).all (leafOkR gl cuts endOk K rs0 rk) = true)
    (hend : ∀ ρ' (β' : Bm) (r : Rs) (a : Act) (w' : World), SameK K ρ ρ' → Conc ρ' w0 M gl β' r.st a w' → endOk r = true → (∀ id, r.x ≠ .exit id) ∧ ∃ vs, resultsS P r.st fn.results.toList = some vs ∧ R (.returned ((packS vs).ev ρ' β')) w') :
    Calls P f (SV.evs ρ β args).toArray w R := by
  refine calls_of_wp hfn hbd (codeR_run hc hm ?_ hrule hr hr0 (entry_conc hh hfs hargs hg) (T.all_holds h))
  intro ρ' β' r a w' hρ hst he
  obtain ⟨h1, vs, hvs, hR⟩ := hend ρ' β' r a w' hρ hst he
  obtain ⟨x, st⟩ := r
  obtain ⟨r1, r2⟩ := results_run hst hvs
  cases x with
  | exit id => exact absurd rfl (h1 id)
  | normal => exact ⟨hst.defers, _, r1, hR⟩
  | ret => exact ⟨hst.defers, _, r1, hR⟩
end
/-- An end that returns 'true'. -/
def trueEnd (P : Program) (fn : Func) (r : Rs) : Bool := lawEnd P fn r
end Go.Proofs.YthbfjnmdjehljaaDoor.SX
