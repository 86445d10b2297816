/- One operation, and regions, those that draw their order among them. Of no program. -/
import Derived.Test.YthbfjnmdjehljaaDoorSxM
import Derived.OrdersHeld
namespace Go.Proofs.YthbfjnmdjehljaaDoor.SX
open Go Go.RowKit
set_option linter.unusedVariables false
set_option linter.unusedSimpArgs false

/-- What an operation that is not pure comes to. -/
def effS (P : Program) (call : Caller) (hp : Hp) (fs : Fs) (g : Operand → SV) (o : Oper) : T Out :=
  match o.op with
  | .alloc e => allocS P hp fs e
  | .box e x => boxS hp fs e (g x)
  | .buildSlice t n ps => buildSliceS P hp fs t n (ps.toList.map fun p => (p.1, g p.2))
  | .store t a x => storeS P hp fs t (g a) (g x)
  | .call { callee := .value f, args := as, .. } => match g f with
    | .func fid u v => call fid (u ++ as.toList.map g ++ v) hp fs
    | _ => .bad 100
  | .pick c a b => match g c with
    | .bool e => split fs e (fun fs => .ok ⟨g a, hp, fs⟩) (fun fs => .ok ⟨g b, hp, fs⟩)
    | _ => .bad 99
  | .makeSlice t l c => makeSliceS P hp fs t (litF fs (g l)) (litF fs (g c))
  | .makeMap _ none => makeMapS hp fs
  | .lookup t m k ok => lookupS P hp fs t (g m) (g k) ok
  | .insert t m k x => updateS P hp fs t (g m) (g k) (g x)
  | .mapUpdate t m k x => updateS P hp fs t (g m) (g k) (g x)
  | .call { callee := .builtin .copy, args := as, argTypes := ts } => match as.toList with
    | [d, s] => match g s with
      | .inp k z off len0 len _ => copyI P hp fs ts (g d) k z off len0 len
      | s => copyS P hp fs ts (g d) s
    | _ => .bad 90
  | .call { callee := .builtin .append, args := as, argTypes := ts } => match as.toList with
    | [s, x] => if ts.size = 2 then appendS P hp fs ts (g s) (g x) else .bad 91
    | _ => .bad 92
  | .call { callee := .builtin .len, args := as, argTypes := ts } => match as.toList with
    | [m] => mapLenS P hp fs ts (g m)
    | _ => .bad 93
  | .load .. => .bad 101
  | .binOp .. => .bad 102
  | .convert .. => .bad 103
  | .fieldAddr .. => .bad 104
  | .indexAddr t x i => match g i with
    | .int k e => concT fs e fun m fs => match iaddrS P t (g x) (.int k (.lit m)) with
      | some r => .ok ⟨r, hp, fs⟩
      | none => .bad 105
    | _ => .bad 105
  | .index t x i => match g i with
    | .int k e => concT fs e fun m fs => match indexS P t (g x) (.int k (.lit m)) with
      | some r => .ok ⟨r, hp, fs⟩
      | none => .bad 106
    | _ => .bad 106
  | .slice t x lo (some y) none => match g y with
    | .int k e => concT fs e fun m fs => match sliceS P t (g x) (lo.map g) (some (.int k (.lit m))) none with
      | some r => .ok ⟨r, hp, fs⟩
      | none => .bad 107
    | _ => .bad 107
  | .slice .. => .bad 107
  | .call .. => .bad 108
  | .makeMap .. => .bad 110
  | .nilCheck .. => .bad 114
  | .build .. => .bad 115
  | _ => .bad 199

section
variable (P : Program) (ρ : Env) (w0 : World) (M : Nat → Prop) (gl : Gl)
def GlOk (β : Bm) (n : Nat) : Prop := ∀ p ∈ gl, (β p.2).1 = p.1 ∧ p.2 < n
/-- Calls come to what the caller says. -/
def CallOk (call : Caller) : Prop := ∀ (f : FuncId) (args : List SV) (hp : Hp) (fs : Fs) (β : Bm) (w : World) (K : Value → World → Prop), Heap ρ w0 M β hp w → (∀ p ∈ fs, (p.1.ev ρ ≠ 0 ↔ p.2 = true)) → SV.oks ρ hp.n args → GlOk gl β hp.n →
  Goes ρ w0 M β hp (call f args hp fs) K → (∀ as w, (callFunc f as).run P w = .ok (.enter f as) w) ∧ Calls P f (SV.evs ρ β args).toArray w fun e w' => ∃ v, e = .returned v ∧ K v w'
end

section
variable {P : Program} {ρ : Env} {w0 : World} {M : Nat → Prop} {gl : Gl} {β : Bm} {w : World} {hp : Hp} {fs : Fs}

theorem Conc.gets {st : St} {a : Act} (h : Conc ρ w0 M gl β st a w) : (∀ x, (st.get gl x).ev ρ β = a.eval x) ∧ ∀ x, (st.get gl x).ok ρ st.hp.n := ⟨h.get_ev, h.get_ok⟩

theorem oks_append {n : Nat} {l m : List SV} (hl : SV.oks ρ n l) (hm : SV.oks ρ n m) : SV.oks ρ n (l ++ m) := by
  rw [SV.oks_mem] at *
  intro s hs
  rcases List.mem_append.1 hs with h | h
  · exact hl s h
  · exact hm s h
theorem evs_append (l m : List SV) : SV.evs ρ β (l ++ m) = SV.evs ρ β l ++ SV.evs ρ β m := by simp [SV.evs_map]

set_option maxHeartbeats 1000000 in
theorem effS_run {call : Caller} (hc : CallOk P ρ w0 M gl call) {g : Operand → SV} {o : Oper} {a : Act} (hg : ∀ x, (g x).ev ρ β = a.eval x) (hk : ∀ x, (g x).ok ρ hp.n) (hh : Heap ρ w0 M β hp w) (hf : ∀ p ∈ fs, (p.1.ev ρ ≠ 0 ↔ p.2 = true))
    (hgl : GlOk gl β hp.n) {next : Act → World → Prop} (Q : Exit → Act → World → Prop) (h : Goes ρ w0 M β hp (effS P call hp fs g o) fun v w' => next (a.put o.dst v) w') : o.wp P a w next Q := by
  obtain ⟨dst, op, type, pos, after, guard⟩ := o
  have hbad : ∀ n K, Goes ρ w0 M β hp (.bad n) K → False := fun _ _ h => h
  cases op <;> simp only [effS] at h <;> try (exact (hbad _ _ h).elim)
  case indexAddr t x i =>
    split at h
    · rename_i k e he
      have hi := hg i
      rw [he] at hi
      obtain ⟨fs', hf', h'⟩ := concT_holds hf h
      split at h'
      · rename_i r hr
        obtain ⟨q1, q2⟩ := iaddrS_run (β := β) (hk x) hr w
        have h2 := h' β w (Ext.refl _ _) (Nat.le_refl _) (Stay.refl _) hh hf' q2
        have hv : (SV.int k (.lit (e.ev ρ))).ev ρ β = a.eval i := hi
        rw [hg, hv] at q1
        unfold Oper.wp
        simp only [execOp, Sem.run_bind, q1, Result.andThen_ok, Sem.run_pure, Oper.upon]
        exact h2
      · exact False.elim h'
    · exact (hbad _ _ h).elim
  case index t x i =>
    split at h
    · rename_i k e he
      have hi := hg i
      rw [he] at hi
      obtain ⟨fs', hf', h'⟩ := concT_holds hf h
      split at h'
      · rename_i r hr
        obtain ⟨q1, q2⟩ := indexS_run (β := β) (hk x) hr w
        have h2 := h' β w (Ext.refl _ _) (Nat.le_refl _) (Stay.refl _) hh hf' q2
        have hv : (SV.int k (.lit (e.ev ρ))).ev ρ β = a.eval i := hi
        rw [hg, hv] at q1
        unfold Oper.wp
        simp only [execOp, Sem.run_bind, q1, Result.andThen_ok, Sem.run_pure, Oper.upon]
        exact h2
      · exact False.elim h'
    · exact (hbad _ _ h).elim
  case slice t x lo hi mx =>
    cases hi with
    | none => exact (hbad _ _ h).elim
    | some y =>
      cases mx with
      | some z => exact (hbad _ _ h).elim
      | none =>
        simp only at h
        split at h
        · rename_i k e he
          have hi := hg y
          rw [he] at hi
          obtain ⟨fs', hf', h'⟩ := concT_holds hf h
          split at h'
          · rename_i r hr
            obtain ⟨q1, q2⟩ := sliceS_run (β := β) (hk x) hr w
            have h2 := h' β w (Ext.refl _ _) (Nat.le_refl _) (Stay.refl _) hh hf' q2
            have hv : (SV.int k (.lit (e.ev ρ))).ev ρ β = a.eval y := hi
            simp only [Option.map_map, Option.map_some, Option.map_none, hv, hg] at q1
            have he : (SV.ev ρ β ∘ g) = a.eval := funext hg
            rw [he] at q1
            unfold Oper.wp
            simp only [execOp, Sem.run_bind, Option.map_some, Option.map_none, q1, Result.andThen_ok, Sem.run_pure, Oper.upon]
            exact h2
          · exact False.elim h'
        · exact (hbad _ _ h).elim
  case alloc e =>
    obtain ⟨v, w', h1, h2⟩ := allocS_run hh hf h
    unfold Oper.wp
    simp only [execOp, Sem.run_bind, h1, Result.andThen_ok, Sem.run_pure, Oper.upon]
    exact h2
  case box e x =>
    obtain ⟨v, w', h1, h2⟩ := boxS_run hh hf (hk x) h
    rw [hg] at h1
    unfold Oper.wp
    simp only [execOp, Sem.run_bind]
    rw [h1]
    exact h2
  case buildSlice t n ps =>
    obtain ⟨v, w', h1, h2⟩ := buildSliceS_run (parts := ps.map fun p => (p.1, g p.2)) hh hf (by
      intro p hp'
      simp only [Array.toList_map, List.mem_map] at hp'
      obtain ⟨q, _, rfl⟩ := hp'
      exact hk _) (by simpa using h)
    simp only [Array.map_map] at h1
    have he : ((fun p : Nat × SV => (p.1, SV.ev ρ β p.2)) ∘ fun p : Nat × Operand => (p.1, g p.2)) = fun p => (p.1, a.eval p.2) := funext fun p => by simp [hg]
    rw [he] at h1
    unfold Oper.wp
    simp only [execOp, Sem.run_bind]
    rw [show (fun x : Nat × Operand => match x with | (i, x) => (i, a.eval x)) = fun p => (p.1, a.eval p.2) from rfl, h1]
    simp only [Result.andThen_ok, Sem.run_pure, Oper.upon]
    exact h2
  case store t x y =>
    obtain ⟨w', h1, h2⟩ := storeS_run hh hf (hk y) h
    rw [hg, hg] at h1
    unfold Oper.wp
    simp only [execOp, Sem.run_bind, h1, Result.andThen_ok, Sem.run_pure, Oper.upon]
    exact h2
  case pick c x y =>
    split at h
    · rename_i e he
      have ec := hg c
      rw [he] at ec
      obtain ⟨fs', hf', h'⟩ := split_holds hf h
      unfold Oper.wp
      rcases h' with ⟨h1, h2⟩ | ⟨h1, h2⟩
      · have := h2 β w (Ext.refl _ _) (Nat.le_refl _) (Stay.refl _) hh hf' (hk x)
        rw [hg] at this
        simpa only [execOp, ← ec, SV.ev, asBool, Sem.run_bind, Sem.run_pure, Result.andThen_ok, ne_eq, h1, not_false_eq_true, decide_true, if_true, Oper.upon] using this
      · have := h2 β w (Ext.refl _ _) (Nat.le_refl _) (Stay.refl _) hh hf' (hk y)
        rw [hg] at this
        simpa only [execOp, ← ec, SV.ev, asBool, Sem.run_bind, Sem.run_pure, Result.andThen_ok, ne_eq, h1, not_true_eq_false, decide_false, Bool.false_eq_true, if_false, Oper.upon] using this
    · exact (hbad _ _ h).elim
  case makeSlice t l c =>
    obtain ⟨v, w', h1, h2⟩ := makeSliceS_run hh hf h
    rw [(litF_spec (n := 0) hf _).1, (litF_spec (n := 0) hf _).1, hg, hg] at h1
    unfold Oper.wp
    simp only [execOp, Sem.run_bind]
    rw [h1]
    exact h2
  case makeMap t r =>
    cases r with
    | some _ => exact (hbad _ _ h).elim
    | none =>
      have := makeMapS_run hh hf h
      unfold Oper.wp
      simp only [execOp, Instr.makeMap, Option.map_none, Sem.run_bind, run_newObj, World.alloc_eq, Result.andThen_ok, Sem.run_pure, Oper.upon]
      exact this
  case lookup t m k ok =>
    obtain ⟨v, w', h1, h2⟩ := lookupS_run hh hf h
    rw [hg, hg] at h1
    unfold Oper.wp
    simp only [execOp, Sem.run_bind]
    rw [h1]
    exact h2
  case insert t m k x =>
    obtain ⟨w', h1, h2⟩ := updateS_run hh hf (hk k) (hk x) h
    rw [hg, hg, hg] at h1
    unfold Oper.wp
    simp only [execOp, Sem.run_bind]
    rw [h1]
    exact h2
  case mapUpdate t m k x =>
    obtain ⟨w', h1, h2⟩ := updateS_run hh hf (hk k) (hk x) h
    rw [hg, hg, hg] at h1
    unfold Oper.wp
    simp only [execOp, Sem.run_bind]
    rw [h1]
    exact h2
  case call c =>
    obtain ⟨callee, as, ts⟩ := c
    cases callee with
    | value f =>
      simp only at h
      split at h
      · rename_i fid u v hfv
        have ef := hg f; have kf := hk f
        rw [hfv] at ef kf
        obtain ⟨c1, c2⟩ := hc fid _ hp fs β w _ hh hf (oks_append (oks_append kf.1 (list_map_ok hk _)) kf.2) hgl h
        unfold Oper.wp
        simp only [execOp, resolve, Sem.run_bind, ← ef, SV.ev, Deferred.ofValue, Sem.run_pure, Result.andThen_ok, invoke, c1, Oper.upon]
        have hargs : (SV.evs ρ β u).toArray ++ as.map a.eval ++ (SV.evs ρ β v).toArray = (SV.evs ρ β (u ++ as.toList.map g ++ v)).toArray := by
          rw [evs_append, evs_append, list_map_ev hg]
          apply Array.ext'
          simp
        rw [hargs]
        refine c2.mono fun e w' ⟨v', he, hk'⟩ => ?_
        subst he
        exact hk'
      · exact (hbad _ _ h).elim
    | invoke r m => exact (hbad _ _ h).elim
    | builtin b =>
      cases b <;> simp only at h <;> try (exact (hbad _ _ h).elim)
      case append =>
        split at h
        · rename_i s x has
          split at h
          · rename_i hts
            obtain ⟨v, w', h1, h2⟩ := appendS_run hh hf type hts (hk s) h
            rw [hg, hg] at h1
            have ha : as.map a.eval = #[a.eval s, a.eval x] := by apply Array.ext'; simp [has]
            unfold Oper.wp
            simp only [execOp, resolve, invoke, builtin, ha, Sem.run_bind, Sem.run_pure, Result.andThen_ok]
            rw [h1]
            exact h2
          · exact (hbad _ _ h).elim
        · exact (hbad _ _ h).elim
      case copy =>
        split at h
        · rename_i d s has
          have hrun : ∃ v w', (Builtin.copy_ ts type #[(g d).ev ρ β, (g s).ev ρ β]).run P w = .ok v w' ∧ next (a.put dst v) w' := by
            split at h
            · rename_i k z off len0 len cap hs
              have hks := hk s
              rw [hs] at hks ⊢
              exact copyI_run hh hf hks type h
            · exact copyS_run hh hf type h
          obtain ⟨v, w', h1, h2⟩ := hrun
          rw [hg, hg] at h1
          have ha : as.map a.eval = #[a.eval d, a.eval s] := by apply Array.ext'; simp [has]
          unfold Oper.wp
          simp only [execOp, resolve, invoke, builtin, ha, Sem.run_bind, Sem.run_pure, Result.andThen_ok]
          rw [h1]
          exact h2
        · exact (hbad _ _ h).elim
      case len =>
        split at h
        · rename_i m has
          obtain ⟨v, w', h1, h2⟩ := mapLenS_run hh hf type h
          rw [hg] at h1
          have ha : as.map a.eval = #[a.eval m] := by apply Array.ext'; simp [has]
          unfold Oper.wp
          simp only [execOp, resolve, invoke, builtin, ha, Sem.run_bind, Sem.run_pure, Result.andThen_ok]
          rw [h1]
          exact h2
        · exact (hbad _ _ h).elim

/-- The rest goes on from a state that has grown out of this one. -/
def Later (ρ : Env) (w0 : World) (M : Nat → Prop) (gl : Gl) (β : Bm) (hp : Hp) (st' : St) (K : Act → World → Prop) : Prop :=
  ∀ (β' : Bm) (a' : Act) (w' : World), Ext hp.n β β' → hp.n ≤ st'.hp.n → Stay hp st'.hp → Conc ρ w0 M gl β' st' a' w' → K a' w'

def doOp (P : Program) (gl : Gl) (call : Caller) (st : St) (o : Oper) : T St :=
  match pureS' P st.facts st.hp (st.get gl) o with
  | some r => .ok (st.put o.dst r)
  | none => (effS P call st.hp st.facts (st.get gl) o).bind fun out => .ok ({ st with hp := out.hp, facts := out.fs }.put o.dst out.v)

theorem Conc.put_out {st : St} {a : Act} {o : Option Tmp} {out : Out} {β' : Bm} {w' : World} (hst : Conc ρ w0 M gl β st a w) (hx : Ext st.hp.n β β') (hl : st.hp.n ≤ out.hp.n) (hh : Heap ρ w0 M β' out.hp w')
    (hf : ∀ p ∈ out.fs, (p.1.ev ρ ≠ 0 ↔ p.2 = true)) (hv : out.v.ok ρ out.hp.n) : Conc ρ w0 M gl β' ({ st with hp := out.hp, facts := out.fs }.put o out.v) (a.put o (out.v.ev ρ β')) w' :=
  (hst.go hx hl hh hf).put (st := { st with hp := out.hp, facts := out.fs }) hv o

theorem doOp_run {call : Caller} (hc : CallOk P ρ w0 M gl call) {st : St} {o : Oper} {a : Act} (hst : Conc ρ w0 M gl β st a w) {K : Act → World → Prop} (Q : Exit → Act → World → Prop)
    (h : (doOp P gl call st o).holds ρ fun st' => Later ρ w0 M gl β st.hp st' K) : o.wp P a w K Q := by
  unfold doOp at h
  split at h
  · rename_i r hr
    obtain ⟨h1, h2⟩ := pureS'_run hst.get_ev hst.get_ok hst.heap.sees hst.facts hr
    unfold Oper.wp
    rw [h1]
    refine h β _ w (Ext.refl _ _) ?_ ?_ (hst.put h2 o.dst)
    · rw [St.put_hp]; exact Nat.le_refl _
    · rw [St.put_hp]; exact Stay.refl _
  · rw [T.holds_bind] at h
    refine effS_run hc hst.get_ev hst.get_ok hst.heap hst.facts hst.gl Q ?_
    refine T.holds_mono (fun out ho β' w' hx hl hs hh hf hv => ?_) h
    refine ho β' _ w' hx ?_ ?_ (hst.put_out hx hl hh hf hv)
    · rw [St.put_hp]; exact hl
    · rw [St.put_hp]; exact hs

/-! ### Guards -/
def isBoolV : Value → Bool
  | .bool _ => true
  | _ => false
inductive Gd where
  | yes | no | ask (e : E) (want : Bool) | lost
def guardS (ops : Array Oper) (st : St) (o : Oper) : Gd :=
  match o.guard with
  | none => .yes
  | some (j, want) => match (ops[j]?).bind (·.dst) with
    | none => .no
    | some t => match st.tmp? t with
      | none => .no
      | some (.bool e) => .ask e want
      | some (.raw v) => if isBoolV v then .lost else .no
      | some _ => .no
theorem guardS_yes {ops : Array Oper} {st : St} {o : Oper} {a : Act} (hst : Conc ρ w0 M gl β st a w) (h : guardS ops st o = .yes) : Region.wanted o (yielded ops a.tmps) = true := by
  unfold guardS at h
  unfold Region.wanted
  split at h
  · rename_i hg; rw [hg]
  · split at h <;> first | cases h | skip
    split at h <;> first | cases h | skip
    split at h <;> cases h
theorem guardS_no {ops : Array Oper} {st : St} {o : Oper} {a : Act} (hst : Conc ρ w0 M gl β st a w) (h : guardS ops st o = .no) : Region.wanted o (yielded ops a.tmps) = false := by
  unfold guardS at h
  unfold Region.wanted
  split at h
  · cases h
  · rename_i j want hg
    rw [hg]
    have key : yielded ops a.tmps j = none := by
      unfold yielded
      split at h
      · rename_i hd; rw [hd]; rfl
      · rename_i t hd
        rw [hd]
        have ht : a.tmps[t]? = (st.tmp? t).map (SV.ev ρ β) := hst.tmp_ev t
        simp only [Option.bind_some, ht]
        split at h
        · rename_i hn; rw [hn]; rfl
        · cases h
        · rename_i v hs
          split at h
          · cases h
          · rename_i hb
            rw [hs]
            simp only [Option.map_some, SV.ev]
            cases v <;> first | rfl | (exact absurd rfl hb)
        · rename_i s hne1 hne2 hs
          rw [hs]
          simp only [Option.map_some]
          cases s <;> first | rfl | (exact (hne1 _ rfl).elim) | (exact (hne2 _ rfl).elim)
    show (yielded ops a.tmps j == some want) = false
    rw [key]
    rfl
theorem guardS_ask {ops : Array Oper} {st : St} {o : Oper} {a : Act} {e : E} {want : Bool} (hst : Conc ρ w0 M gl β st a w) (h : guardS ops st o = .ask e want) : Region.wanted o (yielded ops a.tmps) = (decide (e.ev ρ ≠ 0) == want) := by
  unfold guardS at h
  unfold Region.wanted
  split at h
  · cases h
  · rename_i j want' hg
    rw [hg]
    split at h
    · cases h
    · rename_i t hd
      split at h
      · cases h
      · rename_i e' hs
        simp only [Gd.ask.injEq] at h
        obtain ⟨rfl, rfl⟩ := h
        have ht : a.tmps[t]? = (st.tmp? t).map (SV.ev ρ β) := hst.tmp_ev t
        show (yielded ops a.tmps j == some want') = _
        unfold yielded
        rw [hd]
        simp only [Option.bind_some, ht, hs, Option.map_some, SV.ev]
        rfl
      · split at h <;> cases h
      · cases h

/-- One operation with its guard. -/
def runOp (P : Program) (gl : Gl) (call : Caller) (ops : Array Oper) (o : Oper) (st : St) : T St :=
  match guardS ops st o with
  | .yes => doOp P gl call st o
  | .no => .ok (st.put o.dst undefS)
  | .ask e want => split st.facts e (fun fs => if want then doOp P gl call { st with facts := fs } o else .ok ({ st with facts := fs }.put o.dst undefS))
      (fun fs => if want then .ok ({ st with facts := fs }.put o.dst undefS) else doOp P gl call { st with facts := fs } o)
  | .lost => .bad 120
theorem Conc.facts_to {st : St} {a : Act} {fs : Fs} (hst : Conc ρ w0 M gl β st a w) (hf : ∀ p ∈ fs, (p.1.ev ρ ≠ 0 ↔ p.2 = true)) : Conc ρ w0 M gl β { st with facts := fs } a w :=
  ⟨hst.size, hst.tmps, hst.defers, hst.good, hst.heap, hf, hst.gl⟩
theorem skip_later {st : St} {o : Oper} {a : Act} (hst : Conc ρ w0 M gl β st a w) {K : Act → World → Prop} (h : (T.ok (st.put o.dst undefS)).holds ρ fun st' => Later ρ w0 M gl β st.hp st' K) : K (a.put o.dst undef) w := by
  refine h β _ w (Ext.refl _ _) ?_ ?_ (hst.put (s := undefS) trivial o.dst)
  · rw [St.put_hp]; exact Nat.le_refl _
  · rw [St.put_hp]; exact Stay.refl _
theorem runOp_run {call : Caller} (hc : CallOk P ρ w0 M gl call) {ops : Array Oper} {st : St} {o : Oper} {a : Act} (hst : Conc ρ w0 M gl β st a w) {K : Act → World → Prop} (Q : Exit → Act → World → Prop)
    (h : (runOp P gl call ops o st).holds ρ fun st' => Later ρ w0 M gl β st.hp st' K) :
    (Region.wanted o (yielded ops a.tmps) = true ∧ o.wp P a w K Q) ∨ (Region.wanted o (yielded ops a.tmps) = false ∧ K (a.put o.dst undef) w) := by
  unfold runOp at h
  split at h
  · rename_i hg
    exact .inl ⟨guardS_yes hst hg, doOp_run hc hst Q h⟩
  · rename_i hg
    exact .inr ⟨guardS_no hst hg, skip_later hst h⟩
  · rename_i e want hg
    have hw := guardS_ask hst hg
    obtain ⟨fs', hf', h'⟩ := split_holds hst.facts h
    have hst' := hst.facts_to hf'
    rcases h' with ⟨he, h'⟩ | ⟨he, h'⟩
    · cases want
      · simp only [Bool.false_eq_true, if_false] at h'
        exact .inr ⟨by rw [hw]; simp [he], skip_later hst' h'⟩
      · simp only [if_true] at h'
        exact .inl ⟨by rw [hw]; simp [he], doOp_run hc hst' Q h'⟩
    · cases want
      · simp only [Bool.false_eq_true, if_false] at h'
        exact .inl ⟨by rw [hw]; simp [he], doOp_run hc hst' Q h'⟩
      · simp only [if_true] at h'
        exact .inr ⟨by rw [hw]; simp [he], skip_later hst' h'⟩
  · exact h.elim
theorem Later.trans {st1 st2 : St} {β1 : Bm} {K : Act → World → Prop} (hx : Ext hp.n β β1) (hl : hp.n ≤ st1.hp.n) (hs : Stay hp st1.hp) (h : Later ρ w0 M gl β hp st2 K) : Later ρ w0 M gl β1 st1.hp st2 K :=
  fun β' a' w' hx' hl' hs' hc => h β' a' w' (hx.trans hx' hl) (Nat.le_trans hl hl') (hs.trans hs') hc

/-- Operations in their order. -/
def seqOps (P : Program) (gl : Gl) (call : Caller) (ops : Array Oper) : List Oper → St → T St
  | [], st => .ok st
  | o :: l, st => (runOp P gl call ops o st).bind (seqOps P gl call ops l)
theorem seqOps_run {call : Caller} (hc : CallOk P ρ w0 M gl call) {ops : Array Oper} {Q : Exit → Act → World → Prop} : ∀ (k : Nat) (l : List Oper), (∀ i o, l[i]? = some o → ops[k + i]? = some o) → ∀ (β : Bm) (st : St) (a : Act) (w : World), Conc ρ w0 M gl β st a w →
    ((seqOps P gl call ops l st).holds ρ fun st' => Later ρ w0 M gl β st.hp st' (Q .normal)) → wpOps P ops Q (List.range' k l.length) a w
  | k, [], _, β, st, a, w, hst, h => by
    simp only [List.length_nil, List.range'_zero, wpOps]
    exact h β a w (Ext.refl _ _) (Nat.le_refl _) (Stay.refl _) hst
  | k, o :: l, hl, β, st, a, w, hst, h => by
    have ho := hl 0 o rfl
    simp only [Nat.add_zero] at ho
    simp only [List.length_cons, List.range'_succ, wpOps, ho]
    simp only [seqOps, T.holds_bind] at h
    have key : ∀ st', ((seqOps P gl call ops l st').holds ρ fun st'' => Later ρ w0 M gl β st.hp st'' (Q .normal)) → Later ρ w0 M gl β st.hp st' (wpOps P ops Q (List.range' (k + 1) l.length)) :=
      fun st' h' β' a' w' hx hl' hs hst' => seqOps_run hc (k + 1) l (fun i o' hi => by rw [show k + 1 + i = k + (i + 1) by omega]; exact hl (i + 1) o' hi) β' st' a' w' hst' (T.holds_mono (fun st'' h'' => h''.trans hx hl' hs) h')
    rcases runOp_run hc hst Q (T.holds_mono key h) with ⟨h1, h2⟩ | ⟨h1, h2⟩
    · simp only [h1, if_true]; exact .inl h2
    · simp only [h1, Bool.false_eq_true, if_false]; exact h2
theorem seqRegion_run {call : Caller} (hc : CallOk P ρ w0 M gl call) {id : Nat} {ops : Array Oper} {Q : Exit → Act → World → Prop} {st : St} {a : Act} (hst : Conc ρ w0 M gl β st a w)
    (h : (seqOps P gl call ops ops.toList st).holds ρ fun st' => Later ρ w0 M gl β st.hp st' (Q .normal)) : (Code.region id ops false).wp P Q a w := by
  refine wp_region ?_
  have := seqOps_run (Q := Q) hc 0 ops.toList (fun i o hi => by simpa using hi) β st a w hst h
  rwa [Array.length_toList, ← List.range_eq_range'] at this
end
end Go.Proofs.YthbfjnmdjehljaaDoor.SX
