/- Code and calls: the executor, and that it is right. Of no program. -/
import Derived.Test.YthbfjnmdjehljaaDoorSxG
import Derived.Scope
import Derived.LoopN
namespace Go.Proofs.YthbfjnmdjehljaaDoor.SX
open Go Go.RowKit
set_option linter.unusedVariables false
set_option linter.unusedSimpArgs false

inductive Ex where
  | normal | exit (id : Nat) | ret
def Ex.to : Ex → Exit
  | .normal => .normal
  | .exit id => .exit id
  | .ret => .ret
structure Rs where
  x : Ex
  st : St
def loopN (f : St → T Rs) : Nat → St → T Rs
  | 0, _ => .bad 140
  | n + 1, st => (f st).bind fun r => match r.x with
    | .normal => loopN f n r.st
    | _ => .ok r
def exec (P : Program) (gl : Gl) (call : Caller) (keep : Nat → List Nat) (fuel : Nat) : Code → St → T Rs
  | .skip, st => .ok ⟨.normal, st⟩
  | .label _, st => .ok ⟨.normal, st⟩
  | .region id ops draw, st => (if draw then (anyRegion P gl call (keep id) ops st).dd else seqOps P gl call ops ops.toList st).bind fun st => .ok ⟨.normal, st⟩
  | .seq a b, st => (exec P gl call keep fuel a st).bind fun r => match r.x with
    | .normal => exec P gl call keep fuel b r.st
    | _ => .ok r
  | .cond c a b, st => match st.get gl c with
    | .bool e => split st.facts e (fun fs => exec P gl call keep fuel a { st with facts := fs }) (fun fs => exec P gl call keep fuel b { st with facts := fs })
    | _ => .bad 141
  | .block id c, st => (exec P gl call keep fuel c st).bind fun r => .ok ⟨match r.x with
    | .exit j => if j = id then .normal else .exit j
    | x => x, r.st⟩
  | .loop c, st => loopN (exec P gl call keep fuel c) fuel st
  | .scope c, st => exec P gl call keep fuel c st
  | .exit id, st => .ok ⟨.exit id, st⟩
  | .ret, st => .ok ⟨.ret, st⟩
  | _, _ => .bad 142

section
variable {P : Program} {ρ : Env} {w0 : World} {M : Nat → Prop} {gl : Gl} {w : World} {hp : Hp} {fs : Fs}

/-- From each end of the code the rest goes on. -/
def Ends (ρ : Env) (w0 : World) (M : Nat → Prop) (gl : Gl) (β : Bm) (hp : Hp) (Q : Exit → Act → World → Prop) (r : Rs) : Prop := Later ρ w0 M gl β hp r.st (Q r.x.to)
theorem Ends.trans {β β1 : Bm} {st1 : St} {Q : Exit → Act → World → Prop} {r : Rs} (hx : Ext hp.n β β1) (hl : hp.n ≤ st1.hp.n) (hs : Stay hp st1.hp) (h : Ends ρ w0 M gl β hp Q r) : Ends ρ w0 M gl β1 st1.hp Q r := Later.trans hx hl hs h

theorem loopN_run {c : Code} {f : St → T Rs}
    (hf : ∀ (β : Bm) (st : St) (a : Act) (w : World) (Q : Exit → Act → World → Prop), Conc ρ w0 M gl β st a w → ((f st).holds ρ (Ends ρ w0 M gl β st.hp Q)) → c.wp P Q a w) :
    ∀ (n : Nat) (β : Bm) (st : St) (a : Act) (w : World) (Q : Exit → Act → World → Prop), Conc ρ w0 M gl β st a w → ((loopN f n st).holds ρ (Ends ρ w0 M gl β st.hp Q)) → Code.rounds P c Q n a w
  | 0, _, _, _, _, _, _, h => h.elim
  | n + 1, β, st, a, w, Q, hst, h => by
    unfold loopN at h
    rw [T.holds_bind] at h
    rw [rounds_succ]
    refine hf β st a w _ hst (T.holds_mono (fun r hr => ?_) h)
    obtain ⟨x, st'⟩ := r
    cases x with
    | normal => exact fun β' a' w' hx hl hs hc => loopN_run hf n β' st' a' w' Q hc (T.holds_mono (fun r' hr' => hr'.trans hx hl hs) hr)
    | exit id => exact hr
    | ret => exact hr

theorem exec_run {call : Caller} (hc : CallOk P ρ w0 M gl call) (hm : P.follows .mixedOrders = true) {keep : Nat → List Nat} {fuel : Nat} :
    ∀ (c : Code) (β : Bm) (st : St) (a : Act) (w : World) (Q : Exit → Act → World → Prop), Conc ρ w0 M gl β st a w → ((exec P gl call keep fuel c st).holds ρ (Ends ρ w0 M gl β st.hp Q)) → c.wp P Q a w
  | .skip, β, st, a, w, Q, hst, h => wp_skip (h β a w (Ext.refl _ _) (Nat.le_refl _) (Stay.refl _) hst)
  | .label _, β, st, a, w, Q, hst, h => wp_label (h β a w (Ext.refl _ _) (Nat.le_refl _) (Stay.refl _) hst)
  | .exit _, β, st, a, w, Q, hst, h => wp_exit (h β a w (Ext.refl _ _) (Nat.le_refl _) (Stay.refl _) hst)
  | .ret, β, st, a, w, Q, hst, h => wp_ret (h β a w (Ext.refl _ _) (Nat.le_refl _) (Stay.refl _) hst)
  | .region id ops draw, β, st, a, w, Q, hst, h => by
    unfold exec at h
    rw [T.holds_bind] at h
    cases draw with
    | true => exact anyRegion_run hc hm hst (T.dd_holds (fun s t hs hq => hq.same hs) h)
    | false => exact seqRegion_run hc hst h
  | .seq x y, β, st, a, w, Q, hst, h => by
    unfold exec at h
    rw [T.holds_bind] at h
    refine wp_seq (exec_run hc hm x β st a w _ hst (T.holds_mono (fun r hr => ?_) h))
    obtain ⟨e, st'⟩ := r
    cases e with
    | normal => exact fun β' a' w' hx hl hs hc' => exec_run hc hm y β' st' a' w' Q hc' (T.holds_mono (fun r' hr' => hr'.trans hx hl hs) hr)
    | exit id => exact hr
    | ret => exact hr
  | .cond c x y, β, st, a, w, Q, hst, h => by
    unfold exec at h
    split at h
    · rename_i e he
      have hev := hst.get_ev c
      rw [he] at hev
      obtain ⟨fs', hf', h'⟩ := split_holds hst.facts h
      have hst' := hst.facts_to hf'
      rcases h' with ⟨h1, h2⟩ | ⟨h1, h2⟩
      · exact wp_cond_true (by rw [← hev]; simp [SV.ev, h1]) (exec_run hc hm x β _ a w Q hst' h2)
      · exact wp_cond_false (by rw [← hev]; simp [SV.ev, h1]) (exec_run hc hm y β _ a w Q hst' h2)
    · exact h.elim
  | .block id c, β, st, a, w, Q, hst, h => by
    unfold exec at h
    rw [T.holds_bind] at h
    refine wp_block (exec_run hc hm c β st a w _ hst (T.holds_mono (fun r hr => ?_) h))
    obtain ⟨e, st'⟩ := r
    cases e with
    | normal => exact hr
    | exit j =>
      intro β' a' w' hx hl hs hc'
      have := hr β' a' w' hx hl hs hc'
      simp only at this
      show Exit.inBlock id Q (.exit j) a' w'
      unfold Exit.inBlock
      simp only
      split
      · rename_i he; rw [if_pos he] at this; exact this
      · rename_i he; rw [if_neg he] at this; exact this
    | ret => exact hr
  | .loop c, β, st, a, w, Q, hst, h => wp_loop_rounds fuel (loopN_run (fun β st a w Q h1 h2 => exec_run hc hm c β st a w Q h1 h2) fuel β st a w Q hst h)
  | .scope c, β, st, a, w, Q, hst, h => by
    unfold exec at h
    refine wp_scope_straight (exec_run hc hm c β st a w _ hst (T.holds_mono (fun r hr => ?_) h))
    obtain ⟨e, st'⟩ := r
    cases e <;> exact hr
  | .rangeFunc _ _ _ _, _, _, _, _, _, _, h => h.elim
  | .goto _, _, _, _, _, _, _, h => h.elim
  | .refuse _, _, _, _, _, _, _, h => h.elim
end

/-! ### Calls -/
/-- Functions that have been proved: what they return of these arguments. -/
abbrev Sums := FuncId → List SV → Option SV
def resultsS (P : Program) (st : St) : List ResultVar → Option (List SV)
  | [] => some []
  | r :: l => match (match r with
      | .tmp t => some (st.get [] (.tmp t))
      | .cell a t => loadS P st.hp t (st.get [] (.tmp a))), resultsS P st l with
    | some v, some vs => some (v :: vs)
    | _, _ => none
def packS : List SV → SV
  | [v] => v
  | vs => .tuple vs
mutual
/-- A value by what is known. -/
def canonS (fs : Fs) : SV → SV
  | .int k e => .int k (canon fs e)
  | .bool e => .bool (canon fs e)
  | .agg l => .agg (canonL fs l)
  | s => s
def canonL (fs : Fs) : List SV → List SV
  | [] => []
  | s :: l => canonS fs s :: canonL fs l
end
mutual
theorem canonS_spec {ρ : Env} {fs : Fs} (hf : FsOk ρ fs) (β : Bm) (n : Nat) : ∀ s : SV, (canonS fs s).ev ρ β = s.ev ρ β ∧ (s.ok ρ n → (canonS fs s).ok ρ n)
  | .int k e => by
    have := canon_ev (ρ := ρ) (fs := fs) hf e
    exact ⟨by simp only [canonS, SV.ev, this], fun h => by simp only [canonS, SV.ok, this] at *; exact h⟩
  | .bool e => by
    have := canon_ev (ρ := ρ) (fs := fs) hf e
    exact ⟨by simp only [canonS, SV.ev, this], fun h => trivial⟩
  | .agg l => by
    obtain ⟨a, b⟩ := canonL_spec hf β n l
    exact ⟨by simp only [canonS, SV.ev, a], b⟩
  | .ptr _ _ => ⟨rfl, id⟩
  | .slice _ _ _ _ => ⟨rfl, id⟩
  | .map _ => ⟨rfl, id⟩
  | .str _ => ⟨rfl, id⟩
  | .raw _ => ⟨rfl, id⟩
  | .tuple _ => ⟨rfl, id⟩
  | .func _ _ _ => ⟨rfl, id⟩
  | .inp _ _ _ _ _ _ => ⟨rfl, id⟩
  | .iptr _ _ _ _ _ => ⟨rfl, id⟩
theorem canonL_spec {ρ : Env} {fs : Fs} (hf : FsOk ρ fs) (β : Bm) (n : Nat) : ∀ l : List SV, SV.evs ρ β (canonL fs l) = SV.evs ρ β l ∧ (SV.oks ρ n l → SV.oks ρ n (canonL fs l))
  | [] => ⟨rfl, id⟩
  | s :: l => by
    obtain ⟨a1, a2⟩ := canonS_spec hf β n s
    obtain ⟨b1, b2⟩ := canonL_spec hf β n l
    exact ⟨by simp only [canonL, SV.evs, a1, b1], fun h => ⟨a2 h.1, b2 h.2⟩⟩
end
def callF (P : Program) (gl : Gl) (okF : FuncId → Bool) (sums : Sums) (keep : FuncId → Nat → List Nat) (fuel : Nat) : Nat → Caller
  | 0, _, _, _, _ => .bad 150
  | n + 1, f, args, hp, fs =>
    if okF f then
      match sums f args with
      | some v0 => match sums f (canonL fs args) with
        | some v => .ok ⟨v, hp, fs⟩
        | none => .ok ⟨v0, hp, fs⟩
      | none => match P.funcs[f]? with
        | some fn => match fn.body with
          | some c => (exec P gl (callF P gl okF sums keep fuel n) (keep f) fuel c { sz := args.length + (fn.ntmps - args.length), tmps := fun i => args.getD i undefS, hp := hp, facts := fs }).bind fun r => match r.x with
            | .exit _ => .bad 151
            | _ => match resultsS P r.st fn.results.toList with
              | some vs => .ok ⟨packS vs, r.st.hp, r.st.facts⟩
              | none => .bad 152
          | none => .bad 153
        | none => .bad 154
    else .bad 155

section
variable {P : Program} {ρ : Env} {w0 : World} {M : Nat → Prop} {gl : Gl} {w : World} {hp : Hp} {fs : Fs}

def SumsOk (P : Program) (ρ : Env) (w0 : World) (M : Nat → Prop) (sums : Sums) : Prop := ∀ (f : FuncId) (args : List SV) (v : SV), sums f args = some v → ∀ (n : Nat) (β : Bm), SV.oks ρ n args →
  v.ok ρ n ∧ ∀ w, Kept w0 M w → Calls P f (SV.evs ρ β args).toArray w fun e w' => e = .returned (v.ev ρ β) ∧ Below w.heap.size w w'
def rvSem (tmps : Array Value) : ResultVar → Sem Value
  | .tmp t => pure (tmps.getD t undef)
  | .cell a t => do loadVar t (← asAddr (tmps.getD a undef))
theorem results_eq (fn : Func) (tmps : Array Value) : results fn tmps = (do let vs ← fn.results.mapM (rvSem tmps); pure (if h : vs.size = 1 then vs[0] else .tuple vs)) := by
  have : (fun x : ResultVar => match x with
      | .tmp t => (pure (tmps.getD t undef) : Sem Value)
      | .cell a t => do loadVar t (← asAddr (tmps.getD a undef))) = rvSem tmps := funext fun x => by cases x <;> rfl
  unfold results
  rw [← this]
  rfl
theorem loadS_ptr {P : Program} {hp : Hp} {t : TypeId} {s v : SV} (h : loadS P hp t s = some v) : ∃ b o, s = .ptr b o := by
  unfold loadS at h
  split at h
  · rename_i b o; exact ⟨b, o, rfl⟩
  · cases h
theorem resultsS_run {β : Bm} {st : St} {a : Act} (hst : Conc ρ w0 M gl β st a w) : ∀ {rs : List ResultVar} {vs : List SV}, resultsS P st rs = some vs →
    (rs.mapM (rvSem a.tmps)).run P w = .ok (SV.evs ρ β vs) w ∧ SV.oks ρ st.hp.n vs
  | [], vs, h => by obtain rfl := Option.some.inj h; exact ⟨rfl, trivial⟩
  | r :: l, vs, h => by
    unfold resultsS at h
    split at h
    · rename_i v vs' hv hvs
      obtain rfl := Option.some.inj h
      obtain ⟨q1, q2⟩ := resultsS_run hst hvs
      have hget : ∀ t, a.tmps.getD t undef = (st.get [] (.tmp t)).ev ρ β := fun t => (hst.get_ev (.tmp t)).symm
      have hr : (rvSem a.tmps r).run P w = .ok (v.ev ρ β) w ∧ v.ok ρ st.hp.n := by
        cases r with
        | tmp t =>
          obtain rfl := Option.some.inj hv
          exact ⟨by simp only [rvSem, Sem.run_pure, hget], hst.get_ok (.tmp t)⟩
        | cell p t =>
          simp only at hv
          obtain ⟨l1, l2⟩ := loadS_run hst.heap.sees hv
          obtain ⟨b, o, he⟩ := loadS_ptr hv
          refine ⟨?_, l2⟩
          simp only [rvSem, hget]
          rw [he] at l1 ⊢
          simpa [SV.ev, asAddr, Instr.loadAt, Instr.sureAddr] using l1
      refine ⟨?_, hr.2, q2⟩
      simp only [List.mapM_cons, Sem.run_bind, hr.1, Result.andThen_ok, q1, Sem.run_pure, SV.evs]
    · cases h
theorem results_run {β : Bm} {st : St} {a : Act} {fn : Func} {vs : List SV} (hst : Conc ρ w0 M gl β st a w) (h : resultsS P st fn.results.toList = some vs) :
    (results fn a.tmps).run P w = .ok ((packS vs).ev ρ β) w ∧ (packS vs).ok ρ st.hp.n := by
  obtain ⟨h1, h2⟩ := resultsS_run hst h
  have hl : (SV.evs ρ β vs).toArray.size = vs.length := by rw [SV.evs_map]; simp
  constructor
  · rw [results_eq, Array.mapM_eq_mapM_toList]
    simp only [Sem.run_bind, Sem.run_map, h1, Result.andThen_ok, Sem.run_pure]
    congr 1
    match vs with
    | [] => rfl
    | [v] => rfl
    | u :: v :: l =>
      rw [dif_neg (by rw [hl]; simp)]
      rfl
  · match vs, h2 with
    | [], _ => trivial
    | [v], h2 => exact h2.1
    | u :: v :: l, h2 => exact h2

theorem oks_replicate (n k : Nat) : SV.oks ρ n (List.replicate k undefS) := by
  rw [SV.oks_mem]
  intro s hs
  obtain rfl := List.eq_of_mem_replicate hs
  trivial
theorem callF_run {okF : FuncId → Bool} {sums : Sums} {keep : FuncId → Nat → List Nat} {fuel : Nat} (hm : P.follows .mixedOrders = true) (hok : ∀ f, okF f = true → ∀ as w, (callFunc f as).run P w = .ok (.enter f as) w) (hsum : SumsOk P ρ w0 M sums) :
    ∀ n : Nat, CallOk P ρ w0 M gl (callF P gl okF sums keep fuel n)
  | 0 => fun f args hp fs β w K hh hf ha hg h => h.elim
  | n + 1 => fun f args hp fs β w K hh hf ha hg h => by
    unfold callF at h
    split at h
    · rename_i hof
      refine ⟨hok f hof, ?_⟩
      split at h
      · rename_i v0 hv0
        split at h
        · rename_i v hv
          obtain ⟨c1, c2⟩ := canonL_spec hf β hp.n args
          obtain ⟨v1, v2⟩ := hsum f _ v hv hp.n β (c2 ha)
          have v2 := v2 w hh.kept
          rw [c1] at v2
          refine v2.mono fun e w' ⟨he, hb⟩ => ⟨_, he, ?_⟩
          exact h β w' (Ext.refl _ _) (Nat.le_refl _) (Stay.refl _) (hh.below hb) hf v1
        · obtain ⟨v1, v2⟩ := hsum f args v0 hv0 hp.n β ha
          refine (v2 w hh.kept).mono fun e w' ⟨he, hb⟩ => ⟨_, he, ?_⟩
          exact h β w' (Ext.refl _ _) (Nat.le_refl _) (Stay.refl _) (hh.below hb) hf v1
      · split at h
        · rename_i fn hfn
          split at h
          · rename_i c hb
            unfold Goes at h
            rw [T.holds_bind] at h
            refine calls_of_wp hfn hb ?_
            have hst : Conc ρ w0 M gl β { sz := args.length + (fn.ntmps - args.length), tmps := fun i => args.getD i undefS, hp := hp, facts := fs } { tmps := (SV.evs ρ β args).toArray ++ Array.replicate (fn.ntmps - (SV.evs ρ β args).toArray.size) undef, defers := [] } w := by
              have hlen : (SV.evs ρ β args).toArray.size = args.length := by rw [SV.evs_map]; simp
              refine ⟨by simp [SV.evs_map], fun i hi => ?_, rfl, fun i _ => ?_, hh, hf, hg⟩
              · simp only at hi ⊢
                by_cases hia : i < args.length
                · rw [Array.getElem?_append_left (by rw [hlen]; exact hia), List.getElem?_toArray, SV.evs_map, List.getElem?_map]
                  simp [hia]
                · rw [Array.getElem?_append_right (by rw [hlen]; omega), hlen]
                  rw [Array.getElem?_replicate, if_pos (by omega)]
                  simp only [List.getD, List.getElem?_eq_none (Nat.le_of_not_lt hia)]
                  rfl
              · simp only [List.getD]
                cases hs : args[i]? with
                | none => trivial
                | some s => exact oks_get ha hs
            refine exec_run (callF_run hm hok hsum n) hm c β _ _ w _ hst (T.holds_mono (fun r hr => ?_) h)
            obtain ⟨x, st'⟩ := r
            intro β' a' w' hx hl hs hc'
            cases x with
            | exit id => exact hr.elim
            | normal =>
              simp only at hr
              split at hr
              · rename_i vs hvs
                obtain ⟨r1, r2⟩ := results_run hc' hvs
                exact ⟨hc'.defers, _, r1, _, rfl, hr β' w' hx hl hs hc'.heap hc'.facts r2⟩
              · exact hr.elim
            | ret =>
              simp only at hr
              split at hr
              · rename_i vs hvs
                obtain ⟨r1, r2⟩ := results_run hc' hvs
                exact ⟨hc'.defers, _, r1, _, rfl, hr β' w' hx hl hs hc'.heap hc'.facts r2⟩
              · exact hr.elim
          · exact h.elim
        · exact h.elim
    · exact h.elim
end
end Go.Proofs.YthbfjnmdjehljaaDoor.SX
