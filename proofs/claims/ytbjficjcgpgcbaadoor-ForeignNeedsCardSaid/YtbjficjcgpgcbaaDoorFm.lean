/- Records of package foreign: Len and New; calls by contracts that come to ways; objects that turn. -/
import Derived.Test.YtbjficjcgpgcbaaDoorFl
namespace Go.Proofs.YtbjficjcgpgcbaaDoor
open Go Go.RowKit SX Frm Frn
set_option linter.unusedVariables false
set_option linter.unusedSimpArgs false

/-! ### Calls whose contracts come to ways -/
abbrev SpcT := FuncId → List SV → Hp → Fs → Option (T Out)
def SpecOkT (P : Program) (ρ : Env) (w0 : World) (M : Nat → Prop) (gl : Gl) (sp : SpcT) : Prop := ∀ (f : FuncId) (args : List SV) (hp : Hp) (fs : Fs) (t : T Out), sp f args hp fs = some t →
  ∀ (β : Bm) (w : World) (K : Value → World → Prop), Heap ρ w0 M β hp w → SX.FsOk ρ fs → SV.oks ρ hp.n args → GlOk gl β hp.n → Goes ρ w0 M β hp t K → Calls P f (SV.evs ρ β args).toArray w fun e w' => ∃ v, e = .returned v ∧ K v w'
def ofSpc (sp : Spc) : SpcT := fun f args hp fs => (sp f args hp fs).map T.ok
def orT (a b : SpcT) : SpcT := fun f args hp fs => match a f args hp fs with
  | some o => some o
  | none => b f args hp fs
def callH (P : Program) (gl : Gl) (okF : FuncId → Bool) (sp : SpcT) (keep : FuncId → Nat → List Nat) (fuel : Nat) : Nat → Caller
  | 0, _, _, _, _ => .bad 150
  | n + 1, f, args, hp, fs =>
    if okF f then
      match sp f args hp fs with
      | some t => t
      | none => match P.funcs[f]? with
        | some fn => match fn.body with
          | some c => (exec P gl (callH P gl okF sp keep fuel n) (keep f) fuel c { sz := args.length + (fn.ntmps - args.length), tmps := fun i => args.getD i undefS, hp := hp, facts := fs }).bind fun r => match r.x with
            | .exit _ => .bad 151
            | _ => match resultsS P r.st fn.results.toList with
              | some vs => .ok ⟨packS vs, r.st.hp, r.st.facts⟩
              | none => .bad 152
          | none => .bad 153
        | none => .bad 154
    else .bad 155
section
variable {P : Program} {ρ : Env} {w0 : World} {M : Nat → Prop} {gl : Gl}
theorem ofSpc_ok {sp : Spc} (h : SpecOk P ρ w0 M gl sp) : SpecOkT P ρ w0 M gl (ofSpc sp) := fun f args hp fs t ht β w K hh hf ha hg hk => by
  unfold ofSpc at ht
  cases ho : sp f args hp fs with
  | none => rw [ho] at ht; cases ht
  | some o =>
    rw [ho] at ht
    obtain rfl := Option.some.inj ht
    exact (h f args hp fs o ho β w hh hf ha hg).mono fun e w' ⟨β', h1, h2, h3, h4, h5, h6, h7⟩ => ⟨_, h7, hk β' w' h1 h2 h3 h4 h5 h6⟩
theorem orT_ok {a b : SpcT} (h1 : SpecOkT P ρ w0 M gl a) (h2 : SpecOkT P ρ w0 M gl b) : SpecOkT P ρ w0 M gl (orT a b) := fun f args hp fs t ht => by
  unfold orT at ht
  split at ht
  · rename_i o' ho
    obtain rfl := Option.some.inj ht
    exact h1 f args hp fs o' ho
  · exact h2 f args hp fs t ht
theorem callH_run {okF : FuncId → Bool} {sp : SpcT} {keep : FuncId → Nat → List Nat} {fuel : Nat} (hm : P.follows .mixedOrders = true) (hok : ∀ f, okF f = true → ∀ xs w, (callFunc f xs).run P w = .ok (.enter f xs) w) (hsp : SpecOkT P ρ w0 M gl sp) :
    ∀ n : Nat, CallOk P ρ w0 M gl (callH P gl okF sp keep fuel n)
  | 0 => fun f args hp fs β w K hh hf ha hg h => h.elim
  | n + 1 => fun f args hp fs β w K hh hf ha hg h => by
    unfold callH at h
    split at h
    · rename_i hof
      refine ⟨hok f hof, ?_⟩
      split at h
      · rename_i t ht
        exact hsp f args hp fs t ht β w K hh hf ha hg h
      · split at h
        · rename_i fn hfn
          split at h
          · rename_i c hb
            unfold Goes at h
            rw [T.holds_bind] at h
            refine calls_of_wp hfn hb ?_
            refine exec_run (callH_run hm hok hsp n) hm c β _ _ w _ (entry_conc (fn := fn) hh hf ha hg) (T.holds_mono (fun r hr => ?_) h)
            obtain ⟨x, st'⟩ := r
            intro β' a' w' hx hl hs hc'
            cases x with
            | exit id => exact hr.elim
            | normal =>
              simp only at hr
              split at hr
              · rename_i vs hvs
                obtain ⟨r1, r2⟩ := results_run hc' hvs
                exact ⟨hc'.defers, _, r1, _, rfl, hr β' w' hx hl hs hc'.heap hc'.facts r2⟩
              · exact hr.elim
            | ret =>
              simp only at hr
              split at hr
              · rename_i vs hvs
                obtain ⟨r1, r2⟩ := results_run hc' hvs
                exact ⟨hc'.defers, _, r1, _, rfl, hr β' w' hx hl hs hc'.heap hc'.facts r2⟩
              · exact hr.elim
          · exact h.elim
        · exact h.elim
    · exact h.elim
end

/-! ### Objects that turn, and new ones -/
section
variable {ρ : Env} {w0 w w' : World} {M : Nat → Prop} {β : Bm} {hp : Hp} {φ : Nat → Nat → Prop} {k q : Nat} {es es' : List E}
theorem Heap.turn_ (h : Heap ρ w0 M β hp w) (ho : ObjsOk ρ w0 M β hp φ w) (hk : hp.at k = some ⟨true, .obj q es⟩) {φ' : Nat → Prop} (h1 : Ob q (E.evs ρ es') (β k).1 φ' w') (h2 : ∀ i, φ' i → φ k i ∨ w.heap.size ≤ i) (h3 : Kept w (φ k) w') :
    Heap ρ w0 M β (hp.put k ⟨true, .obj q es'⟩) w' := by
  have hlt := Hp.at_lt hk
  have cases_ : ∀ (j : Nat) (x : Box), (hp.put k ⟨true, .obj q es'⟩).at j = some x → (j ≠ k ∧ hp.at j = some x) ∨ (j = k ∧ x = ⟨true, .obj q es'⟩) := fun j x hj => by
    by_cases he : j = k
    · subst he; rw [Hp.at_put_same _ hlt] at hj; exact .inr ⟨rfl, (Option.some.inj hj).symm⟩
    · rw [Hp.at_put_ne _ he] at hj; exact .inl ⟨he, hj⟩
  refine ⟨fun j x hj => ?_, fun i j x y hi hj hx hy e => ?_, fun j x hj hr hx => ?_, fun j x hj => ?_, ⟨h3.os.trans h.kept.os, h3.tape.trans h.kept.tape, h3.output.trans h.kept.output, Nat.le_trans h.kept.size h3.size, fun i hi hm => ?_⟩, fun j x hj ha => ?_, fun j => if j = k then φ' else φ j, ?_, ?_, ?_⟩
  · rcases cases_ j x hj with ⟨hne, hj'⟩ | ⟨rfl, rfl⟩
    · have hl := h.lies j x hj'
      cases hv : x.c.live with
      | true => exact Bx.lies_block (h3.block _ (Bx.lies_lt hl hv) fun hi => (ho.apart k j _ x hk hj' rfl (Ne.symm hne) _ hi).1 hv rfl) hl
      | false =>
        cases ha : x.c.isArr with
        | false => exact Bx.not_live hv ha
        | true =>
          obtain ⟨a1, a2⟩ := h.arrs j x hj' ha
          refine Bx.lies_block (h3.block _ (Nat.lt_of_lt_of_le a1 h.kept.size) fun hi => ?_) hl
          rcases ho.own k _ hk rfl _ hi with h4 | h4
          · exact a2 h4
          · omega
    · trivial
  · rcases cases_ i x hi with ⟨hne, hi'⟩ | ⟨rfl, rfl⟩ <;> rcases cases_ j y hj with ⟨hne', hj'⟩ | ⟨rfl, rfl⟩
    · exact h.inj i j x y hi' hj' hx hy e
    · cases hy
    · cases hx
    · rfl
  · rcases cases_ j x hj with ⟨hne, hj'⟩ | ⟨rfl, rfl⟩
    · exact h.mine j x hj' hr hx
    · cases hx
  · simp only [Hp.n_put]
    rcases cases_ j x hj with ⟨hne, hj'⟩ | ⟨rfl, rfl⟩
    · exact h.good j x hj'
    · trivial
  · rw [h3.block i (Nat.lt_of_lt_of_le hi h.kept.size) fun hi' => ?_]
    · exact h.kept.block i hi hm
    · rcases ho.own k _ hk rfl _ hi' with h4 | h4
      · exact hm h4
      · omega
  · rcases cases_ j x hj with ⟨hne, hj'⟩ | ⟨rfl, rfl⟩
    · exact h.arrs j x hj' ha
    · cases ha
  · intro j x q' es2 hj e
    rcases cases_ j x hj with ⟨hne, hj'⟩ | ⟨rfl, rfl⟩
    · simp only [if_neg hne]
      refine Ob_keep (ho.has j x q' es2 hj' e) fun i hi => h3.block i (ho.lt hj' (by rw [e]; rfl) hi) fun hi' => ?_
      exact (ho.apart j k x _ hj' hk (by rw [e]; rfl) hne i hi).2 rfl hi'
    · cases e
      simp only [if_true]
      exact h1
  · intro j x hj hb i hi
    rcases cases_ j x hj with ⟨hne, hj'⟩ | ⟨rfl, rfl⟩
    · simp only [if_neg hne] at hi
      exact ho.own j x hj' hb i hi
    · simp only [if_true] at hi
      rcases h2 i hi with h4 | h4
      · exact ho.own _ _ hk rfl i h4
      · have := h.kept.size; exact .inr (by omega)
  · intro i j x y hi hj hb hij a ha
    rcases cases_ i x hi with ⟨hne, hi'⟩ | ⟨rfl, rfl⟩
    · simp only [if_neg hne] at ha
      rcases cases_ j y hj with ⟨hne', hj'⟩ | ⟨rfl, rfl⟩
      · simp only [if_neg hne']
        exact ho.apart i j x y hi' hj' hb hij a ha
      · refine ⟨fun hv => (by cases hv), fun _ => ?_⟩
        simp only [if_true]
        intro hc
        rcases h2 a hc with h4 | h4
        · exact (ho.apart i _ x _ hi' hk hb hij a ha).2 rfl h4
        · have := ho.lt hi' hb ha; omega
    · simp only [if_true] at ha
      rcases cases_ j y hj with ⟨hne', hj'⟩ | ⟨rfl, rfl⟩
      · simp only [if_neg hne']
        rcases h2 a ha with h4 | h4
        · exact ho.apart _ j _ y hk hj' rfl hij a h4
        · refine ⟨fun hv e => ?_, fun hv hc => ?_⟩
          · have := Bx.lies_lt (h.lies j y hj') hv; omega
          · have := ho.lt hj' hv hc; omega
      · exact absurd rfl hij
theorem Heap.newObj (h : Heap ρ w0 M β hp w) (hb : Below w.heap.size w w') {b : Nat} {φ' : Nat → Prop} (h1 : Ob q (E.evs ρ es) b φ' w') (h2 : ∀ i, φ' i → w.heap.size ≤ i) :
    Heap ρ w0 M (upd β hp.n (b, 0)) (hp.push ⟨true, .obj q es⟩) w' := by
  obtain ⟨φ, ho⟩ := h.objs
  have hh := h.below hb
  have hx := upd_ext β hp.n (b, 0)
  have cases_ : ∀ (k : Nat) (x : Box), (hp.push ⟨true, .obj q es⟩).at k = some x → (k < hp.n ∧ hp.at k = some x ∧ upd β hp.n (b, 0) k = β k) ∨ (k = hp.n ∧ x = ⟨true, .obj q es⟩) := fun k x hk => by
    have hlt' := Hp.at_lt hk
    simp only [Hp.n_push] at hlt'
    by_cases hlt : k < hp.n
    · rw [Hp.at_push_lt _ hlt] at hk
      exact .inl ⟨hlt, hk, hx k hlt⟩
    · obtain rfl : k = hp.n := by omega
      rw [Hp.at_push_n] at hk
      exact .inr ⟨rfl, (Option.some.inj hk).symm⟩
  have keepB : ∀ (j : Nat) (x : Box) (i : Nat), hp.at j = some x → x.c.isObj = true → φ j i → w'.heap[i]? = w.heap[i]? := fun j x i hj hx hi => hb.block i (ho.lt hj hx hi)
  refine ⟨fun k x hk => ?_, fun j k x y hj hk hlx hly he => ?_, fun k x hk hr hlx => ?_, fun k x hk => ?_, hh.kept, fun k x hk hax => ?_, fun j => if j = hp.n then φ' else φ j, ?_, ?_, ?_⟩
  · rcases cases_ k x hk with ⟨hlt, hk', e⟩ | ⟨rfl, rfl⟩
    · rw [e]; exact Bx.lies_ext hx (hh.good k x hk') (hh.lies k x hk')
    · trivial
  · rcases cases_ j x hj with ⟨hlt, hj', e⟩ | ⟨rfl, rfl⟩ <;> rcases cases_ k y hk with ⟨hlt', hk', e'⟩ | ⟨rfl, rfl⟩
    · rw [e, e'] at he; exact h.inj j k x y hj' hk' hlx hly he
    · cases hly
    · cases hlx
    · rfl
  · rcases cases_ k x hk with ⟨hlt, hk', e⟩ | ⟨rfl, rfl⟩
    · rw [e]; exact h.mine k x hk' hr hlx
    · cases hlx
  · simp only [Hp.n_push]
    rcases cases_ k x hk with ⟨hlt, hk', e⟩ | ⟨rfl, rfl⟩
    · exact Bx.ok_mono (by omega) (h.good k x hk')
    · trivial
  · rcases cases_ k x hk with ⟨hlt, hk', e⟩ | ⟨rfl, rfl⟩
    · rw [e]; exact h.arrs k x hk' hax
    · cases hax
  · intro j x q' es2 hj e
    rcases cases_ j x hj with ⟨hlt, hj', e'⟩ | ⟨rfl, rfl⟩
    · simp only [if_neg (Nat.ne_of_lt hlt)]
      rw [e']
      exact Ob_keep (ho.has j x q' es2 hj' e) fun i hi => keepB j x i hj' (by rw [e]; rfl) hi
    · cases e
      simp only [if_true, upd_same]
      exact h1
  · intro j x hj hb' i hi
    rcases cases_ j x hj with ⟨hlt, hj', e'⟩ | ⟨rfl, rfl⟩
    · simp only [if_neg (Nat.ne_of_lt hlt)] at hi
      exact ho.own j x hj' hb' i hi
    · simp only [if_true] at hi
      have := h2 i hi
      have := h.kept.size
      exact .inr (by omega)
  · intro i j x y hi hj hb' hij a ha
    rcases cases_ i x hi with ⟨hlt, hi', e⟩ | ⟨rfl, rfl⟩ <;> rcases cases_ j y hj with ⟨hlt', hj', e'⟩ | ⟨rfl, rfl⟩
    · simp only [if_neg (Nat.ne_of_lt hlt)] at ha
      simp only [if_neg (Nat.ne_of_lt hlt')]
      rw [e']
      exact ho.apart i j x y hi' hj' hb' hij a ha
    · simp only [if_neg (Nat.ne_of_lt hlt)] at ha
      refine ⟨fun hv => (by cases hv), fun _ => ?_⟩
      simp only [if_true]
      intro hc
      have := h2 a hc
      have := ho.lt hi' hb' ha
      omega
    · simp only [if_true] at ha
      simp only [if_neg (Nat.ne_of_lt hlt')]
      have h4 := h2 a ha
      refine ⟨fun hv e => ?_, fun hv hc => ?_⟩
      · rw [e'] at e
        have := Bx.lies_lt (h.lies j y hj') hv; omega
      · have := ho.lt hj' hv hc; omega
    · exact absurd rfl hij
end
/-! ### Len and New -/
noncomputable def lenB (n : Nat) : Bool := (runS noSpec 22 [.ptr 0 0] n []).all (isLitV (Int.ofNat n))
set_option maxRecDepth 1000000 in
theorem len_runs : upTo 5 lenB = true := by kernel_rfl
def newF : Fs := [(lt0 (.var 12) (.lit 1), false), (lt0 (.lit 1125899906842624) (.var 12), false), (lt0 (.var 13) (.lit 1), false), (lt0 (.lit 8) (.var 13), false)]
def newEnd (o : Out) : Bool := match o.v with
  | .ptr k 0 => isCells o.hp o.fs k 54 0 [.int .i64 (.var 12), .int .i64 (.var 13), .int .i64 (.lit 0), .raw (.slice none 0 0)]
  | _ => false
set_option maxRecDepth 1000000 in
theorem new_run : (callG Tryd.prog [] okF noSpec noKeep 80 30 10 [.int .i64 (.var 12), .int .i64 (.var 13)] .nil newF).all newEnd = true := by kernel_rfl
end Go.Proofs.YtbjficjcgpgcbaaDoor
