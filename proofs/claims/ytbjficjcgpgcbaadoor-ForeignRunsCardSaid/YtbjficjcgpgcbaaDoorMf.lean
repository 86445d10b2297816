/- The executor: loops by templates; of no program. -/
import Derived.Test.YtbjficjcgpgcbaaDoorMe
namespace Go.Proofs.YtbjficjcgpgcbaaDoor.SX
open Go Go.RowKit
set_option linter.unusedVariables false
set_option linter.unusedSimpArgs false

/-! ### Walks up to loops -/
abbrev Path := List Nat
/-- Where a walk has come to: the code's end, or a loop in it (its place, the state). -/
inductive Sp where
  | done (r : Rs)
  | loop (p : Path) (st : St)
def Sp.under (i : Nat) : Sp → Sp
  | .done r => .done r
  | .loop p st => .loop (i :: p) st
def exitIn (id : Nat) : Ex → Ex
  | .exit j => if j = id then .normal else .exit j
  | x => x
def Sp.inBlock (id : Nat) : Sp → Sp
  | .done r => .done ⟨exitIn id r.x, r.st⟩
  | .loop p st => .loop (0 :: p) st
def execP (P : Program) (gl : Gl) (call : Caller) (keep : Nat → List Nat) (fuel : Nat) : Code → St → T Sp
  | .seq a b, st => (execP P gl call keep fuel a st).bind fun s => match s with
    | .loop p st => .ok (.loop (0 :: p) st)
    | .done r => match r.x with
      | .normal => (execP P gl call keep fuel b r.st).map (Sp.under 1)
      | _ => .ok (.done r)
  | .cond c a b, st => match st.get gl c with
    | .bool e => split st.facts e (fun fs => (execP P gl call keep fuel a { st with facts := fs }).map (Sp.under 0)) (fun fs => (execP P gl call keep fuel b { st with facts := fs }).map (Sp.under 1))
    | _ => .bad 141
  | .block id c, st => (execP P gl call keep fuel c st).map (Sp.inBlock id)
  | .loop _, st => .ok (.loop [] st)
  | .scope c, st => (execP P gl call keep fuel c st).map (Sp.under 0)
  | .skip, st => .ok (.done ⟨.normal, st⟩)
  | .label _, st => .ok (.done ⟨.normal, st⟩)
  | .region id ops draw, st => (exec P gl call keep fuel (.region id ops draw) st).map .done
  | .exit id, st => .ok (.done ⟨.exit id, st⟩)
  | .ret, st => .ok (.done ⟨.ret, st⟩)
  | _, _ => .bad 142
/-- On from the end of a loop. -/
def resumeP (P : Program) (gl : Gl) (call : Caller) (keep : Nat → List Nat) (fuel : Nat) : Code → Path → Rs → T Sp
  | .seq a b, i :: p, r => if i = 0 then (resumeP P gl call keep fuel a p r).bind fun s => match s with
      | .loop p st => .ok (.loop (0 :: p) st)
      | .done r => match r.x with
        | .normal => (execP P gl call keep fuel b r.st).map (Sp.under 1)
        | _ => .ok (.done r)
    else (resumeP P gl call keep fuel b p r).map (Sp.under 1)
  | .cond _ a b, i :: p, r => if i = 0 then (resumeP P gl call keep fuel a p r).map (Sp.under 0) else (resumeP P gl call keep fuel b p r).map (Sp.under 1)
  | .block id c, _ :: p, r => (resumeP P gl call keep fuel c p r).map (Sp.inBlock id)
  | .scope c, _ :: p, r => (resumeP P gl call keep fuel c p r).map (Sp.under 0)
  | .loop _, [], r => .ok (.done r)
  | .loop c, _ :: p, r => (resumeP P gl call keep fuel c p r).bind fun s => match s with
    | .loop p st => .ok (.loop (0 :: p) st)
    | .done r => match r.x with
      | .normal => .ok (.loop [] r.st)
      | _ => .ok (.done r)
  | _, _, _ => .bad 160
/-- A loop at the beginning of a round. -/
def More (P : Program) (c : Code) (Q : Exit → Act → World → Prop) (a : Act) (w : World) : Prop := ∀ (b : Frame) (k : List Item) (cs : List Frame), ∃ e a' w', Q e a' w' ∧ Arrives P (lone (b.at a (.code c :: .inLoop c :: k)) cs w) b k cs e a' w'
theorem more_loop {P : Program} {c : Code} {Q : Exit → Act → World → Prop} {a : Act} {w : World} (h : More P c Q a w) : (Code.loop c).wp P Q a w := by
  intro b k cs
  obtain ⟨e, a', w', hq, harr⟩ := h b k cs
  exact ⟨e, a', w', hq, .of_steps (.one step_loop) harr⟩
theorem more_step {P : Program} {c : Code} {Q : Exit → Act → World → Prop} {a : Act} {w : World} (h : c.wp P (Exit.then (More P c Q) Q) a w) : More P c Q a w := by
  intro b k cs
  obtain ⟨e, a₁, w₁, hq, harr⟩ := h b (.inLoop c :: k) cs
  cases e with
  | normal =>
    obtain ⟨e₂, a₂, w₂, hq₂, harr₂⟩ := hq b k cs
    exact ⟨e₂, a₂, w₂, hq₂, .of_steps (Steps.trans harr (.one step_inLoop)) harr₂⟩
  | exit id => exact ⟨_, a₁, w₁, hq, .pass (x := .inLoop c) rfl (fun _ _ => .inl (by simp)) harr⟩
  | goto l => exact ⟨_, a₁, w₁, hq, .pass (x := .inLoop c) rfl (fun _ _ => .inl (by simp)) harr⟩
  | ret => exact ⟨_, a₁, w₁, hq, .pass (x := .inLoop c) rfl (fun _ _ => .inl (by simp)) harr⟩
  | panic ch => exact ⟨_, a₁, w₁, hq, .pass (x := .inLoop c) rfl (fun _ _ => .inl (by simp)) harr⟩
  | outgrown => exact ⟨_, a₁, w₁, hq, .pass (x := .inLoop c) rfl (fun _ _ => .inl (by simp)) harr⟩
theorem more_rounds {P : Program} {c : Code} {Q : Exit → Act → World → Prop} : ∀ (n : Nat) {a : Act} {w : World}, Code.rounds P c Q n a w → More P c Q a w
  | 0, _, _, h => h.elim
  | n + 1, _, _, h => more_step (wp_mono h fun e a w hq => by
    cases e with
    | normal => exact more_rounds n hq
    | exit id => exact hq
    | goto l => exact hq
    | ret => exact hq
    | panic ch => exact hq
    | outgrown => exact hq)
/-- What must hold where a part of the code ends, if Q must hold where the whole ends. -/
def postAt (P : Program) : Code → Path → (Exit → Act → World → Prop) → Exit → Act → World → Prop
  | .seq a b, i :: p, Q => if i = 0 then postAt P a p (Exit.then (b.wp P Q) Q) else postAt P b p Q
  | .cond _ a b, i :: p, Q => if i = 0 then postAt P a p Q else postAt P b p Q
  | .block id c, _ :: p, Q => postAt P c p (Exit.inBlock id Q)
  | .scope c, _ :: p, Q => postAt P c p (Exit.noGoto Q)
  | .loop c, _ :: p, Q => postAt P c p (Exit.then (More P c Q) Q)
  | _, _, Q => Q
def bodyAt : Code → Path → Option Code
  | .seq a b, i :: p => if i = 0 then bodyAt a p else bodyAt b p
  | .cond _ a b, i :: p => if i = 0 then bodyAt a p else bodyAt b p
  | .block _ c, _ :: p => bodyAt c p
  | .scope c, _ :: p => bodyAt c p
  | .loop c, [] => some c
  | .loop c, _ :: p => bodyAt c p
  | _, _ => none

section
variable {P : Program} {ρ : Env} {w0 : World} {M : Nat → Prop} {gl : Gl} {β : Bm} {w : World} {hp : Hp} {fs : Fs}
theorem T.holds_map' {α γ : Type} {f : α → γ} {Q : γ → Prop} {t : T α} : (t.map f).holds ρ Q ↔ t.holds ρ fun a => Q (f a) := by
  unfold T.map
  rw [T.holds_bind]
  exact Iff.rfl
/-- A loop of the code may be run. -/
def LoopAt (P : Program) (c : Code) (p : Path) (Q : Exit → Act → World → Prop) (a : Act) (w : World) : Prop := ∃ b, bodyAt c p = some b ∧ More P b (postAt P c p Q) a w
def Reach (P : Program) (ρ : Env) (w0 : World) (M : Nat → Prop) (gl : Gl) (β : Bm) (hp : Hp) (c : Code) (Q : Exit → Act → World → Prop) : Sp → Prop
  | .done r => Ends ρ w0 M gl β hp Q r
  | .loop p st => Later ρ w0 M gl β hp st (LoopAt P c p Q)
theorem Reach.trans {β1 : Bm} {st1 : St} {c : Code} {Q : Exit → Act → World → Prop} {s : Sp} (hx : Ext hp.n β β1) (hl : hp.n ≤ st1.hp.n) (hs : Stay hp st1.hp) (h : Reach P ρ w0 M gl β hp c Q s) : Reach P ρ w0 M gl β1 st1.hp c Q s := by
  cases s with
  | done r => exact Ends.trans hx hl hs h
  | loop p st => exact Later.trans hx hl hs h
theorem reach_under {i : Nat} {c c' : Code} {Q Q' : Exit → Act → World → Prop} {s : Sp} (h1 : ∀ p, bodyAt c (i :: p) = bodyAt c' p) (h2 : ∀ p, postAt P c (i :: p) Q = postAt P c' p Q') (hd : ∀ r, Ends ρ w0 M gl β hp Q r → Ends ρ w0 M gl β hp Q' r)
    (h : Reach P ρ w0 M gl β hp c Q (s.under i)) : Reach P ρ w0 M gl β hp c' Q' s := by
  cases s with
  | done r => exact hd r h
  | loop p st =>
    intro β' a' w' e1 e2 e3 e4
    obtain ⟨b, hb, hw⟩ := h β' a' w' e1 e2 e3 e4
    rw [h1] at hb
    rw [h2] at hw
    exact ⟨b, hb, hw⟩
theorem inBlock_to {id : Nat} {Q : Exit → Act → World → Prop} {x : Ex} {a : Act} {w : World} (h : Q (exitIn id x).to a w) : Exit.inBlock id Q x.to a w := by
  cases x with
  | normal => exact h
  | ret => exact h
  | exit j =>
    show Exit.inBlock id Q (.exit j) a w
    unfold Exit.inBlock
    simp only
    simp only [exitIn] at h
    split
    · rename_i he; rw [if_pos he] at h; exact h
    · rename_i he; rw [if_neg he] at h; exact h
theorem reach_block {id : Nat} {c : Code} {Q : Exit → Act → World → Prop} {s : Sp} (h : Reach P ρ w0 M gl β hp (.block id c) Q (s.inBlock id)) : Reach P ρ w0 M gl β hp c (Exit.inBlock id Q) s := by
  cases s with
  | done r => exact fun β' a' w' e1 e2 e3 e4 => inBlock_to (h β' a' w' e1 e2 e3 e4)
  | loop p st =>
    intro β' a' w' e1 e2 e3 e4
    obtain ⟨b, hb, hw⟩ := h β' a' w' e1 e2 e3 e4
    exact ⟨b, hb, hw⟩
theorem reach_scope {c : Code} {Q : Exit → Act → World → Prop} {s : Sp} (h : Reach P ρ w0 M gl β hp (.scope c) Q (s.under 0)) : Reach P ρ w0 M gl β hp c (Exit.noGoto Q) s :=
  reach_under (c := .scope c) (fun _ => rfl) (fun _ => rfl) (fun r hr β' a' w' e1 e2 e3 e4 => by
    have := hr β' a' w' e1 e2 e3 e4
    obtain ⟨x, st⟩ := r
    cases x <;> exact this) h

theorem execP_run {call : Caller} (hc : CallOk P ρ w0 M gl call) (hm : P.follows .mixedOrders = true) {keep : Nat → List Nat} {fuel : Nat} :
    ∀ (c : Code) (β : Bm) (st : St) (a : Act) (w : World) (Q : Exit → Act → World → Prop), Conc ρ w0 M gl β st a w → ((execP P gl call keep fuel c st).holds ρ (Reach P ρ w0 M gl β st.hp c Q)) → c.wp P Q a w
  | .skip, β, st, a, w, Q, hst, h => wp_skip (h β a w (Ext.refl _ _) (Nat.le_refl _) (Stay.refl _) hst)
  | .label _, β, st, a, w, Q, hst, h => wp_label (h β a w (Ext.refl _ _) (Nat.le_refl _) (Stay.refl _) hst)
  | .exit _, β, st, a, w, Q, hst, h => wp_exit (h β a w (Ext.refl _ _) (Nat.le_refl _) (Stay.refl _) hst)
  | .ret, β, st, a, w, Q, hst, h => wp_ret (h β a w (Ext.refl _ _) (Nat.le_refl _) (Stay.refl _) hst)
  | .region id ops draw, β, st, a, w, Q, hst, h => by
    unfold execP at h
    rw [T.holds_map'] at h
    exact exec_run hc hm _ β st a w Q hst h
  | .seq x y, β, st, a, w, Q, hst, h => by
    unfold execP at h
    rw [T.holds_bind] at h
    refine wp_seq (execP_run hc hm x β st a w _ hst (T.holds_mono (fun s hs => ?_) h))
    cases s with
    | loop p st' => exact hs
    | done r =>
      obtain ⟨e, st'⟩ := r
      cases e with
      | normal =>
        simp only at hs
        rw [T.holds_map'] at hs
        exact fun β' a' w' hx hl hss hc' => execP_run hc hm y β' st' a' w' Q hc' (T.holds_mono (fun r' hr' => (reach_under (c := .seq x y) (i := 1) (fun _ => rfl) (fun _ => rfl) (fun _ h => h) hr').trans hx hl hss) hs)
      | exit id => exact hs
      | ret => exact hs
  | .cond c x y, β, st, a, w, Q, hst, h => by
    unfold execP at h
    split at h
    · rename_i e he
      have hev := hst.get_ev c
      rw [he] at hev
      obtain ⟨fs', hf', h'⟩ := split_holds hst.facts h
      have hst' := hst.facts_to hf'
      rcases h' with ⟨h1, h2⟩ | ⟨h1, h2⟩
      · rw [T.holds_map'] at h2
        exact wp_cond_true (by rw [← hev]; simp [SV.ev, h1]) (execP_run hc hm x β _ a w Q hst' (T.holds_mono (fun r' hr' => reach_under (c := .cond c x y) (i := 0) (fun _ => rfl) (fun _ => rfl) (fun _ h => h) hr') h2))
      · rw [T.holds_map'] at h2
        exact wp_cond_false (by rw [← hev]; simp [SV.ev, h1]) (execP_run hc hm y β _ a w Q hst' (T.holds_mono (fun r' hr' => reach_under (c := .cond c x y) (i := 1) (fun _ => rfl) (fun _ => rfl) (fun _ h => h) hr') h2))
    · exact h.elim
  | .block id c, β, st, a, w, Q, hst, h => by
    unfold execP at h
    rw [T.holds_map'] at h
    exact wp_block (execP_run hc hm c β st a w _ hst (T.holds_mono (fun s hs => reach_block hs) h))
  | .loop c, β, st, a, w, Q, hst, h => by
    obtain ⟨b, hb, hw⟩ := h β a w (Ext.refl _ _) (Nat.le_refl _) (Stay.refl _) hst
    simp only [bodyAt, Option.some.injEq] at hb
    subst hb
    exact more_loop hw
  | .scope c, β, st, a, w, Q, hst, h => by
    unfold execP at h
    rw [T.holds_map'] at h
    exact wp_scope_straight (execP_run hc hm c β st a w _ hst (T.holds_mono (fun s hs => reach_scope hs) h))
  | .rangeFunc _ _ _ _, _, _, _, _, _, _, h => h.elim
  | .goto _, _, _, _, _, _, _, h => h.elim
  | .refuse _, _, _, _, _, _, _, h => h.elim

theorem resumeP_run {call : Caller} (hc : CallOk P ρ w0 M gl call) (hm : P.follows .mixedOrders = true) {keep : Nat → List Nat} {fuel : Nat} :
    ∀ (c : Code) (p : Path) (β : Bm) (r : Rs) (a : Act) (w : World) (Q : Exit → Act → World → Prop), Conc ρ w0 M gl β r.st a w → ((resumeP P gl call keep fuel c p r).holds ρ (Reach P ρ w0 M gl β r.st.hp c Q)) → postAt P c p Q r.x.to a w
  | .seq x y, i :: p, β, r, a, w, Q, hst, h => by
    unfold resumeP at h
    unfold postAt
    split at h
    · rename_i hi
      subst hi
      rw [if_pos rfl]
      rw [T.holds_bind] at h
      refine resumeP_run hc hm x p β r a w _ hst (T.holds_mono (fun s hs => ?_) h)
      cases s with
      | loop p st' => exact hs
      | done r =>
        obtain ⟨e, st'⟩ := r
        cases e with
        | normal =>
          simp only at hs
          rw [T.holds_map'] at hs
          exact fun β' a' w' hx hl hss hc' => execP_run hc hm y β' st' a' w' Q hc' (T.holds_mono (fun r' hr' => (reach_under (c := .seq x y) (i := 1) (fun _ => rfl) (fun _ => rfl) (fun _ h => h) hr').trans hx hl hss) hs)
        | exit id => exact hs
        | ret => exact hs
    · rename_i hi
      rw [if_neg hi]
      rw [T.holds_map'] at h
      exact resumeP_run hc hm y p β r a w _ hst (T.holds_mono (fun s hs => reach_under (c := .seq x y) (i := 1) (fun _ => rfl) (fun _ => rfl) (fun _ h => h) hs) h)
  | .cond c x y, i :: p, β, r, a, w, Q, hst, h => by
    unfold resumeP at h
    unfold postAt
    split at h
    · rename_i hi
      subst hi
      rw [if_pos rfl]
      rw [T.holds_map'] at h
      exact resumeP_run hc hm x p β r a w _ hst (T.holds_mono (fun s hs => reach_under (c := .cond c x y) (i := 0) (fun _ => rfl) (fun _ => rfl) (fun _ h => h) hs) h)
    · rename_i hi
      rw [if_neg hi]
      rw [T.holds_map'] at h
      exact resumeP_run hc hm y p β r a w _ hst (T.holds_mono (fun s hs => reach_under (c := .cond c x y) (i := 1) (fun _ => rfl) (fun _ => rfl) (fun _ h => h) hs) h)
  | .block id c, _ :: p, β, r, a, w, Q, hst, h => by
    unfold resumeP at h
    unfold postAt
    rw [T.holds_map'] at h
    exact resumeP_run hc hm c p β r a w _ hst (T.holds_mono (fun s hs => reach_block hs) h)
  | .scope c, _ :: p, β, r, a, w, Q, hst, h => by
    unfold resumeP at h
    unfold postAt
    rw [T.holds_map'] at h
    exact resumeP_run hc hm c p β r a w _ hst (T.holds_mono (fun s hs => reach_scope hs) h)
  | .loop c, [], β, r, a, w, Q, hst, h => by
    unfold postAt
    exact h β a w (Ext.refl _ _) (Nat.le_refl _) (Stay.refl _) hst
  | .loop c, _ :: p, β, r, a, w, Q, hst, h => by
    unfold resumeP at h
    unfold postAt
    rw [T.holds_bind] at h
    refine resumeP_run hc hm c p β r a w _ hst (T.holds_mono (fun s hs => ?_) h)
    cases s with
    | loop p st' =>
      intro β' a' w' e1 e2 e3 e4
      obtain ⟨b, hb, hw⟩ := hs β' a' w' e1 e2 e3 e4
      exact ⟨b, hb, hw⟩
    | done r =>
      obtain ⟨e, st'⟩ := r
      cases e with
      | normal =>
        intro β' a' w' e1 e2 e3 e4
        obtain ⟨b, hb, hw⟩ := hs β' a' w' e1 e2 e3 e4
        simp only [bodyAt, Option.some.injEq] at hb
        subst hb
        exact hw
      | exit id => exact hs
      | ret => exact hs
  | .seq _ _, [], _, _, _, _, _, _, h => h.elim
  | .cond _ _ _, [], _, _, _, _, _, _, h => h.elim
  | .block _ _, [], _, _, _, _, _, _, h => h.elim
  | .scope _, [], _, _, _, _, _, _, h => h.elim
  | .skip, _, _, _, _, _, _, _, h => h.elim
  | .label _, _, _, _, _, _, _, _, h => h.elim
  | .exit _, _, _, _, _, _, _, _, h => h.elim
  | .ret, _, _, _, _, _, _, _, h => h.elim
  | .region _ _ _, _, _, _, _, _, _, _, h => h.elim
  | .rangeFunc _ _ _ _, _, _, _, _, _, _, _, h => h.elim
  | .goto _, _, _, _, _, _, _, _, h => h.elim
  | .refuse _, _, _, _, _, _, _, _, h => h.elim
end

/-! ### Other names for the variables -/
mutual
def E.sub (σ : Nat → E) : E → E
  | .lit n => .lit n
  | .var i => σ i
  | .rd a f i => .rd a f (E.sub σ i)
  | .bin o k a b => .bin o k (E.sub σ a) (E.sub σ b)
  | .app f j l => .app f j (E.subs σ l)
def E.subs (σ : Nat → E) : List E → List E
  | [] => []
  | e :: l => E.sub σ e :: E.subs σ l
end
def envSub (ρ : Env) (σ : Nat → E) : Env := ⟨fun i => (σ i).ev ρ, ρ.arr, ρ.fn⟩
mutual
theorem E.sub_ev (ρ : Env) (σ : Nat → E) : ∀ e : E, (e.sub σ).ev ρ = e.ev (envSub ρ σ)
  | .lit _ => rfl
  | .var _ => rfl
  | .rd a f i => by simp only [E.sub, E.ev]; rw [E.sub_ev ρ σ i]; rfl
  | .bin o k a b => by simp only [E.sub, E.ev]; rw [E.sub_ev ρ σ a, E.sub_ev ρ σ b]
  | .app f j l => by simp only [E.sub, E.ev]; rw [E.subs_ev ρ σ l]; rfl
theorem E.subs_ev (ρ : Env) (σ : Nat → E) : ∀ l : List E, E.evs ρ (E.subs σ l) = E.evs (envSub ρ σ) l
  | [] => rfl
  | e :: l => by simp only [E.subs, E.evs]; rw [E.sub_ev ρ σ e, E.subs_ev ρ σ l]
end
mutual
/-- Canonical forms also within the arguments of names and the places that are read. -/
def E.deep (fs : Fs) : E → E
  | .lit n => .lit n
  | .var i => .var i
  | .rd a f i => .rd a f (canon fs (E.deep fs i))
  | .bin o k a b => .bin o k (E.deep fs a) (E.deep fs b)
  | .app f j l => .app f j (E.deeps fs l)
def E.deeps (fs : Fs) : List E → List E
  | [] => []
  | e :: l => canon fs (E.deep fs e) :: E.deeps fs l
end
mutual
theorem E.deep_ev {ρ : Env} {fs : Fs} (hf : FsOk ρ fs) : ∀ e : E, (e.deep fs).ev ρ = e.ev ρ
  | .lit _ => rfl
  | .var _ => rfl
  | .rd a f i => by simp only [E.deep, E.ev]; rw [canon_ev hf, E.deep_ev hf i]
  | .bin o k a b => by simp only [E.deep, E.ev]; rw [E.deep_ev hf a, E.deep_ev hf b]
  | .app f j l => by simp only [E.deep, E.ev]; rw [E.deeps_ev hf l]
theorem E.deeps_ev {ρ : Env} {fs : Fs} (hf : FsOk ρ fs) : ∀ l : List E, E.evs ρ (E.deeps fs l) = E.evs ρ l
  | [] => rfl
  | e :: l => by simp only [E.deeps, E.evs]; rw [canon_ev hf, E.deep_ev hf e, E.deeps_ev hf l]
end
mutual
/-- Has it arguments? -/
def E.hasArgs : E → Bool
  | .lit _ => false
  | .var _ => false
  | .rd _ _ _ => true
  | .bin _ _ a b => E.hasArgs a || E.hasArgs b
  | .app _ _ _ => true
end
/-- By what is known two expressions come to the same. -/
def eqC1 (fs : Fs) (a b : E) : Bool := a.beq b || (canon fs a).beq (canon fs b) || knownC fs (.bin .eq .i64 a b) == some true
def eqF (fs : Fs) (a b : E) : Bool := eqC1 fs a b || ((a.hasArgs || b.hasArgs) && eqC1 fs (canon fs (a.deep fs)) (canon fs (b.deep fs)))
theorem eqC1_spec {ρ : Env} {fs : Fs} (hf : FsOk ρ fs) {a b : E} (h : eqC1 fs a b = true) : a.ev ρ = b.ev ρ := by
  simp only [eqC1, Bool.or_eq_true, beq_iff_eq] at h
  rcases h with (h | h) | h
  · rw [E.beq_eq _ _ h]
  · rw [← canon_ev hf a, ← canon_ev hf b, E.beq_eq _ _ h]
  · have h1 := (knownC_spec hf h).2 rfl
    have h2 : (E.bin .eq .i64 a b).ev ρ = if a.ev ρ = b.ev ρ then 1 else 0 := rfl
    rw [h2] at h1
    by_cases he : a.ev ρ = b.ev ρ
    · exact he
    · rw [if_neg he] at h1; exact absurd rfl h1
theorem eqF_spec {ρ : Env} {fs : Fs} (hf : FsOk ρ fs) {a b : E} (h : eqF fs a b = true) : a.ev ρ = b.ev ρ := by
  simp only [eqF, Bool.or_eq_true, Bool.and_eq_true] at h
  rcases h with h | h
  · exact eqC1_spec hf h
  · have := eqC1_spec hf h.2
    rwa [canon_ev hf, canon_ev hf, E.deep_ev hf, E.deep_ev hf] at this
def decideD (fs : Fs) (c : E) : Option Bool :=
  match decideE fs c with
  | some b => some b
  | none => if c.hasArgs then decideE fs (c.deep fs) else none
theorem decideD_spec {ρ : Env} {fs : Fs} (hf : FsOk ρ fs) {e : E} {b : Bool} (h : decideD fs e = some b) : decide (e.ev ρ ≠ 0) = b := by
  unfold decideD at h
  split at h
  · rename_i v hv; obtain rfl := Option.some.inj h; exact decideE_spec hf hv
  · split at h
    · have := decideE_spec hf h
      rwa [E.deep_ev hf] at this
    · cases h
def eqFs (fs : Fs) : List E → List E → Bool
  | [], [] => true
  | a :: l, b :: m => eqF fs a b && eqFs fs l m
  | _, _ => false
theorem eqFs_spec {ρ : Env} {fs : Fs} (hf : FsOk ρ fs) : ∀ {l m : List E}, eqFs fs l m = true → E.evs ρ l = E.evs ρ m
  | [], [], _ => rfl
  | [], _ :: _, h => by cases h
  | _ :: _, [], h => by cases h
  | a :: l, b :: m, h => by
    simp only [eqFs, Bool.and_eq_true] at h
    simp only [E.evs, eqF_spec hf h.1, eqFs_spec hf h.2]
/-- Values without parts. -/
def rawEq : Value → Value → Bool
  | .pointer none, .pointer none => true
  | .slice none a b, .slice none c d => a == c && b == d
  | .map none, .map none => true
  | .nilFunc, .nilFunc => true
  | .nilIface, .nilIface => true
  | .agg a, .agg b => a.size == 0 && b.size == 0
  | _, _ => false
theorem rawEq_spec {a b : Value} (h : rawEq a b = true) : a = b := by
  unfold rawEq at h
  split at h <;> first | rfl | (simp at h; done) | skip
  · simp only [Bool.and_eq_true, beq_iff_eq] at h; rw [h.1, h.2]
  · rename_i x y
    simp only [Bool.and_eq_true, beq_iff_eq] at h
    rw [Array.eq_empty_of_size_eq_zero h.1, Array.eq_empty_of_size_eq_zero h.2]

def sameB : Option Bool → Option Bool → Bool
  | some a, some b => a == b
  | _, _ => false
theorem sameB_spec {ρ : Env} {fs : Fs} (hf : FsOk ρ fs) {a b : E} (h : sameB (decideD fs a) (decideD fs b) = true) : decide (a.ev ρ ≠ 0) = decide (b.ev ρ ≠ 0) := by
  unfold sameB at h
  split at h
  · rename_i u v hu hv
    rw [decideD_spec hf hu, decideD_spec hf hv]
    simpa using h
  · cases h
mutual
/-- A template's value (σ: what its variables are, π: its boxes' numbers) is the value at hand; it holds pointers to boxes below n alone. -/
def SV.fit (fs : Fs) (σ : Nat → E) (π : Nat → Nat) (n : Nat) : SV → SV → Bool
  | .int k e, .int j x => kTag k == kTag j && eqF fs (e.sub σ) x
  | .bool e, .bool x => eqF fs (e.sub σ) x || sameB (decideD fs (e.sub σ)) (decideD fs x)
  | .ptr b o, .ptr c u => π b == c && o == u && decide (b < n)
  | .slice b o l p, .slice c u m q => π b == c && o == u && l == m && p == q && decide (b < n)
  | .map b, .map c => π b == c && decide (b < n)
  | .str l, .str m => eqFs fs (E.subs σ l) m
  | .raw v, .raw x => rawEq v x
  | .agg l, .agg m => SV.fitL fs σ π n l m
  | .tuple l, .tuple m => SV.fitL fs σ π n l m
  | .func f x y, .func g u v => f == g && SV.fitL fs σ π n x u && SV.fitL fs σ π n y v
  | .inp k z o a b c, .inp j y u d e f => π k == j && z == y && o == u && decide (k < n) && eqF fs (a.sub σ) d && eqF fs (b.sub σ) e && eqF fs (c.sub σ) f
  | _, _ => false
def SV.fitL (fs : Fs) (σ : Nat → E) (π : Nat → Nat) (n : Nat) : List SV → List SV → Bool
  | [], [] => true
  | s :: l, t :: m => SV.fit fs σ π n s t && SV.fitL fs σ π n l m
  | _, _ => false
end
section
variable {ρ : Env} {β : Bm} {fs : Fs} {σ : Nat → E} {π : Nat → Nat} {n m : Nat}
mutual
theorem SV.fit_spec (hf : FsOk ρ fs) : ∀ (s t : SV), s.fit fs σ π n t = true → t.ev ρ β = s.ev (envSub ρ σ) (fun k => β (π k)) ∧ (t.ok ρ m → s.ok (envSub ρ σ) n)
  | .int k e, t, h => by
    cases t <;> simp [SV.fit] at h
    obtain ⟨h1, h2⟩ := h
    obtain rfl := kTag_inj h1
    have := eqF_spec hf h2
    rw [E.sub_ev] at this
    exact ⟨by simp only [SV.ev, this], fun h => by simp only [SV.ok] at *; rw [this]; exact h⟩
  | .bool e, t, h => by
    cases t <;> simp [SV.fit] at h
    rename_i x
    have key : decide ((e.sub σ).ev ρ ≠ 0) = decide (x.ev ρ ≠ 0) := by
      rcases h with h | h
      · rw [eqF_spec hf h]
      · exact sameB_spec hf h
    rw [E.sub_ev] at key
    exact ⟨by simp only [SV.ev, key], fun _ => trivial⟩
  | .ptr b o, t, h => by
    cases t <;> simp [SV.fit] at h
    obtain ⟨⟨rfl, rfl⟩, h⟩ := h
    exact ⟨rfl, fun _ => h⟩
  | .slice b o l c, t, h => by
    cases t <;> simp [SV.fit] at h
    obtain ⟨⟨⟨⟨rfl, rfl⟩, rfl⟩, rfl⟩, h⟩ := h
    exact ⟨rfl, fun _ => h⟩
  | .map b, t, h => by
    cases t <;> simp [SV.fit] at h
    obtain ⟨rfl, h⟩ := h
    exact ⟨rfl, fun _ => h⟩
  | .str l, t, h => by
    cases t <;> simp [SV.fit] at h
    have := eqFs_spec hf h
    rw [E.subs_ev] at this
    exact ⟨by simp only [SV.ev, this], fun h => by simp only [SV.ok] at *; rw [this]; exact h⟩
  | .raw v, t, h => by
    cases t <;> simp [SV.fit] at h
    rw [rawEq_spec h]
    exact ⟨rfl, fun _ => trivial⟩
  | .agg l, t, h => by
    cases t <;> simp [SV.fit] at h
    obtain ⟨h1, h2⟩ := SV.fitL_spec hf l _ h
    exact ⟨by simp only [SV.ev, h1], h2⟩
  | .tuple l, t, h => by
    cases t <;> simp [SV.fit] at h
    obtain ⟨h1, h2⟩ := SV.fitL_spec hf l _ h
    exact ⟨by simp only [SV.ev, h1], h2⟩
  | .func f x y, t, h => by
    cases t <;> simp [SV.fit] at h
    obtain ⟨⟨rfl, h1⟩, h2⟩ := h
    obtain ⟨a1, a2⟩ := SV.fitL_spec hf x _ h1
    obtain ⟨b1, b2⟩ := SV.fitL_spec hf y _ h2
    exact ⟨by simp only [SV.ev, a1, b1], fun h => ⟨a2 h.1, b2 h.2⟩⟩
  | .inp k z o a b c, t, h => by
    cases t <;> simp [SV.fit] at h
    obtain ⟨⟨⟨⟨⟨⟨rfl, rfl⟩, rfl⟩, hk⟩, h1⟩, h2⟩, h3⟩ := h
    have e1 := eqF_spec hf h1
    have e2 := eqF_spec hf h2
    have e3 := eqF_spec hf h3
    rw [E.sub_ev] at e1 e2 e3
    exact ⟨by simp only [SV.ev, e2, e3], fun h => by simp only [SV.ok] at *; rw [e1, e2, e3]; exact ⟨hk, h.2⟩⟩
  | .iptr _ _ _ _ _, t, h => by cases t <;> simp [SV.fit] at h
theorem SV.fitL_spec (hf : FsOk ρ fs) : ∀ (l t : List SV), SV.fitL fs σ π n l t = true → SV.evs ρ β t = SV.evs (envSub ρ σ) (fun k => β (π k)) l ∧ (SV.oks ρ m t → SV.oks (envSub ρ σ) n l)
  | [], t, h => by
    cases t <;> simp [SV.fitL] at h
    exact ⟨rfl, fun _ => trivial⟩
  | s :: l, t, h => by
    cases t <;> simp [SV.fitL] at h
    obtain ⟨a1, a2⟩ := SV.fit_spec hf s _ h.1
    obtain ⟨b1, b2⟩ := SV.fitL_spec hf l _ h.2
    exact ⟨by simp only [SV.evs, a1, b1], fun h => ⟨a2 h.1, b2 h.2⟩⟩
end
end
def lkEq : Lk → Lk → Bool
  | .int k, .int j => kTag k == kTag j
  | .bool, .bool => true
  | _, _ => false
def lksEq : List Lk → List Lk → Bool
  | [], [] => true
  | a :: l, b :: m => lkEq a b && lksEq l m
  | _, _ => false
theorem lkEq_spec {a b : Lk} (h : lkEq a b = true) : a = b := by
  cases a <;> cases b <;> simp [lkEq] at h
  · rw [kTag_inj h]
  · rfl
theorem lksEq_spec : ∀ {l m : List Lk}, lksEq l m = true → l = m
  | [], [], _ => rfl
  | [], _ :: _, h => by cases h
  | _ :: _, [], h => by cases h
  | a :: l, b :: m, h => by
    simp only [lksEq, Bool.and_eq_true] at h
    rw [lkEq_spec h.1, lksEq_spec h.2]
def fitEnts (fs : Fs) (σ : Nat → E) (π : Nat → Nat) (n : Nat) : List (SV × SV × Nat) → List (SV × SV × Nat) → Bool
  | [], [] => true
  | (a, b, c) :: l, (d, e, f) :: m => SV.fit fs σ π n a d && SV.fit fs σ π n b e && c == f && fitEnts fs σ π n l m
  | _, _ => false
def Bx.fit (fs : Fs) (σ : Nat → E) (π : Nat → Nat) (n : Nat) : Bx → Bx → Bool
  | .gone, _ => true
  | .cells c ty t, .cells d tz u => SV.fitL fs σ π n c d && ty == tz && t == u
  | .map es c, .map fs' d => fitEnts fs σ π n es fs' && c == d
  | .ro c m, .ro d k => SV.fitL fs σ π n c d && m == k
  | .arr a ks l, .arr b js m => a == b && lksEq ks js && eqF fs (l.sub σ) m
  | .obj q l, .obj r m => q == r && eqFs fs (E.subs σ l) m
  | _, _ => false
section
variable {ρ : Env} {β : Bm} {fs : Fs} {σ : Nat → E} {π : Nat → Nat} {n m : Nat} {w : World}
theorem fitEnts_spec (hf : FsOk ρ fs) : ∀ (l t : List (SV × SV × Nat)), fitEnts fs σ π n l t = true → t.map (entOf ρ β) = l.map (entOf (envSub ρ σ) (fun k => β (π k))) ∧ ((∀ e ∈ t, e.1.ok ρ m ∧ e.2.1.ok ρ m) → ∀ e ∈ l, e.1.ok (envSub ρ σ) n ∧ e.2.1.ok (envSub ρ σ) n)
  | [], [], _ => ⟨rfl, fun _ _ h => by cases h⟩
  | [], _ :: _, h => by cases h
  | _ :: _, [], h => by cases h
  | (a, b, c) :: l, (d, e, f) :: t, h => by
    simp only [fitEnts, Bool.and_eq_true, beq_iff_eq] at h
    obtain ⟨⟨⟨h1, h2⟩, rfl⟩, h4⟩ := h
    obtain ⟨a1, a2⟩ := SV.fit_spec (β := β) (m := m) hf _ _ h1
    obtain ⟨b1, b2⟩ := SV.fit_spec (β := β) (m := m) hf _ _ h2
    obtain ⟨c1, c2⟩ := fitEnts_spec hf _ _ h4
    refine ⟨by simp only [List.map_cons, c1, entOf, a1, b1], fun hk x hx => ?_⟩
    rcases List.mem_cons.1 hx with rfl | hx
    · have := hk (d, e, c) (List.mem_cons_self ..)
      exact ⟨a2 this.1, b2 this.2⟩
    · exact c2 (fun y hy => hk y (List.mem_cons_of_mem _ hy)) x hx
theorem Bx.fit_spec (hf : FsOk ρ fs) {b c : Bx} (h : b.fit fs σ π n c = true) : (∀ bv, c.lies ρ β bv w → b.lies (envSub ρ σ) (fun k => β (π k)) bv w) ∧ (c.ok ρ m → b.ok (envSub ρ σ) n) ∧ (b.live = true → c.live = true) ∧ (b.isArr = true → c.isArr = true) := by
  unfold Bx.fit at h
  split at h
  · exact ⟨fun _ _ => trivial, fun _ => trivial, fun h => (by cases h), fun h => (by cases h)⟩
  · rename_i c ty t d tz u
    simp only [Bool.and_eq_true, beq_iff_eq] at h
    obtain ⟨⟨h1, rfl⟩, rfl⟩ := h
    obtain ⟨a1, a2⟩ := SV.fitL_spec (β := β) (m := m) hf _ _ h1
    have hlen : d.length = c.length := by
      have := congrArg List.length a1
      simpa [SV.evs_map] using this
    refine ⟨fun bv hl => ?_, a2, fun _ => rfl, fun h => by cases h⟩
    cases t with
    | zero => simp only [Bx.lies] at *; rw [← a1]; exact hl
    | succ s => simp only [Bx.lies] at *; rw [← a1, ← hlen]; exact hl
  · rename_i es c es' d
    simp only [Bool.and_eq_true, beq_iff_eq] at h
    obtain ⟨h1, rfl⟩ := h
    obtain ⟨a1, a2⟩ := fitEnts_spec (β := β) (m := m) hf _ _ h1
    exact ⟨fun bv hl => by simp only [Bx.lies] at *; rw [← a1]; exact hl, a2, fun _ => rfl, fun h => by cases h⟩
  · rename_i c m1 d m2
    simp only [Bool.and_eq_true, beq_iff_eq] at h
    obtain ⟨h, rfl⟩ := h
    obtain ⟨a1, a2⟩ := SV.fitL_spec (β := β) (m := m) hf _ _ h
    have hlen : d.length = c.length := by
      have := congrArg List.length a1
      simpa [SV.evs_map] using this
    have hem : d.isEmpty = c.isEmpty := by cases d <;> cases c <;> first | rfl | simp at hlen
    refine ⟨fun bv hl => by simp only [Bx.lies] at *; rw [← a1, ← hem]; exact hl, a2, fun hv => ?_, fun h => by cases h⟩
    cases d with
    | nil => cases c with
      | nil => exact hv
      | cons _ _ => simp at hlen
    | cons _ _ => rfl
  · rename_i a ks l b js q
    simp only [Bool.and_eq_true, beq_iff_eq] at h
    obtain ⟨⟨rfl, h2⟩, h3⟩ := h
    obtain rfl := lksEq_spec h2
    have e := eqF_spec hf h3
    rw [E.sub_ev] at e
    refine ⟨fun bv hl => ?_, fun _ => trivial, fun h => h, fun h => h⟩
    simp only [Bx.lies] at *
    rw [e]
    exact hl
  · exact ⟨fun _ _ => trivial, fun _ => trivial, fun h => (by cases h), fun h => (by cases h)⟩
  · cases h
theorem Bx.fit_obj (hf : FsOk ρ fs) {q : Nat} {es : List E} {c : Bx} (h : (Bx.obj q es).fit fs σ π n c = true) : ∃ es', c = .obj q es' ∧ E.evs ρ es' = E.evs (envSub ρ σ) es := by
  cases c <;> simp only [Bx.fit, Bool.and_eq_true, beq_iff_eq] at h <;> try cases h
  rename_i r m h1 h2
  subst h1
  have := eqFs_spec hf h2
  rw [E.subs_ev] at this
  exact ⟨m, rfl, this.symm⟩
end

/-! ### Templates -/
/-- A state at a loop: what is known of its slots (by number), its boxes, its facts. -/
structure Tm where
  sz : Nat
  live : List (Nat × SV)
  boxes : List Box
  facts : Fs
def lookT : List (Nat × SV) → Nat → Option SV
  | [], _ => none
  | (j, s) :: l, i => bif Nat.beq i j then some s else lookT l i
def Tm.hp (τ : Tm) : Hp := ⟨τ.boxes.length, fun k => τ.boxes.getD k ⟨false, .gone⟩⟩
def rngE (k : IntKind) : E → Fs
  | .var i => [(.bin .zrng k (.var i) (.lit 0), true)]
  | _ => []
mutual
def SV.rngs : SV → Fs
  | .int k e => rngE k e
  | .agg l => SV.rngsL l
  | .tuple l => SV.rngsL l
  | _ => []
def SV.rngsL : List SV → Fs
  | [] => []
  | s :: l => SV.rngs s ++ SV.rngsL l
end
def Bx.rngs : Bx → Fs
  | .cells c _ _ => SV.rngsL c
  | .ro c _ => SV.rngsL c
  | _ => []
def liveRngs : List (Nat × SV) → Fs
  | [] => []
  | p :: l => p.2.rngs ++ liveRngs l
def boxRngs : List Box → Fs
  | [] => []
  | b :: l => b.c.rngs ++ boxRngs l
def Tm.st (τ : Tm) (g : Nat → Value) : St := ⟨τ.sz, fun i => (lookT τ.live i).getD (.raw (g i)), τ.hp, τ.facts ++ (liveRngs τ.live ++ boxRngs τ.boxes)⟩
/-- A variable by itself, or what it lacks to a sum of others. -/
abbrev Sol := List (Nat × Option E × E)
def solveE : E → E → Sol
  | .var i, e => [(i, none, e)]
  | .bin .zadd _ a (.bin .zmul _ (.lit (-1)) (.var i)), e => [(i, some a, e)]
  | _, _ => []
def solveEs : List E → List E → Sol
  | a :: l, b :: m => solveE a b ++ solveEs l m
  | _, _ => []
mutual
def SV.solve : SV → SV → Sol
  | .int _ a, .int _ e => solveE a e
  | .bool (.var i), .bool e => [(i, none, e)]
  | .agg l, .agg m => SV.solveL l m
  | .tuple l, .tuple m => SV.solveL l m
  | _, _ => []
def SV.solveL : List SV → List SV → Sol
  | s :: l, t :: m => SV.solve s t ++ SV.solveL l m
  | _, _ => []
end
def Bx.solve : Bx → Bx → Sol
  | .cells c _ _, .cells d _ _ => SV.solveL c d
  | .ro c _, .ro d _ => SV.solveL c d
  | .obj _ l, .obj _ m => solveEs l m
  | _, _ => []
def solveT (st : St) : List (Nat × SV) → Sol
  | [] => []
  | (i, s) :: l => SV.solve s (st.tmps i) ++ solveT st l
def solveB (π : Nat → Nat) (st : St) : List Box → Nat → Sol
  | [], _ => []
  | b :: l, j => Bx.solve b.c (st.hp.box (π j)).c ++ solveB π st l (j + 1)
/-- The numbers of a template's boxes in the state at hand: by the pointers in slots, then by those in boxes. -/
abbrev Rn := List (Nat × Nat)
def rnOf : Rn → Nat → Nat
  | [], i => i
  | (j, k) :: l, i => bif Nat.beq i j then k else rnOf l i
mutual
def SV.ren : SV → SV → Rn
  | .ptr b _, .ptr c _ => [(b, c)]
  | .slice b _ _ _, .slice c _ _ _ => [(b, c)]
  | .map b, .map c => [(b, c)]
  | .inp b _ _ _ _ _, .inp c _ _ _ _ _ => [(b, c)]
  | .agg l, .agg m => SV.renL l m
  | .tuple l, .tuple m => SV.renL l m
  | .func _ x y, .func _ u v => SV.renL x u ++ SV.renL y v
  | _, _ => []
def SV.renL : List SV → List SV → Rn
  | s :: l, t :: m => SV.ren s t ++ SV.renL l m
  | _, _ => []
end
def Bx.ren : Bx → Bx → Rn
  | .cells c _ _, .cells d _ _ => SV.renL c d
  | .ro c _, .ro d _ => SV.renL c d
  | _, _ => []
def renT (st : St) : List (Nat × SV) → Rn
  | [] => []
  | (i, s) :: l => SV.ren s (st.tmps i) ++ renT st l
def renB (st : St) : List Box → Nat → Rn → Rn
  | [], _, r => r
  | b :: l, j, r => renB st l (j + 1) (r ++ Bx.ren b.c (st.hp.box (rnOf r j)).c)
def Tm.ren (τ : Tm) (st : St) : Nat → Nat := rnOf (renB st τ.boxes 0 (renT st τ.live))
def oneOne (π : Nat → Nat) (n : Nat) : Bool := (List.range n).all fun j => (List.range j).all fun k => !Nat.beq (π j) (π k)
def look0 : Sol → Nat → E
  | [], i => .var i
  | (j, none, e) :: l, i => bif Nat.beq i j then e else look0 l i
  | (_, some _, _) :: l, i => look0 l i
def lookE (s : Sol) : Sol → Nat → E
  | [], i => .var i
  | (j, none, e) :: l, i => bif Nat.beq i j then e else lookE s l i
  | (j, some a, e) :: l, i => bif Nat.beq i j then .bin .zadd .i64 (a.sub (look0 s)) (.bin .zmul .i64 (.lit (-1)) e) else lookE s l i
def Tm.solve (τ : Tm) (st : St) : Nat → E := let s := solveT st τ.live ++ solveB (τ.ren st) st τ.boxes 0; lookE s s
def fitT (fs : Fs) (σ : Nat → E) (π : Nat → Nat) (n : Nat) (st : St) : List (Nat × SV) → Bool
  | [] => true
  | (i, s) :: l => decide (i < st.sz) && SV.fit fs σ π n s (st.tmps i) && fitT fs σ π n st l
def fitB (fs : Fs) (σ : Nat → E) (π : Nat → Nat) (n : Nat) (st : St) : List Box → Nat → Bool
  | [], _ => true
  | b :: l, j => decide (π j < st.hp.n) && (!b.rw || (st.hp.box (π j)).rw) && Bx.fit fs σ π n b.c (st.hp.box (π j)).c && fitB fs σ π n st l (j + 1)
def fitF (fs : Fs) (σ : Nat → E) : Fs → Bool
  | [] => true
  | (c, b) :: l => decideD fs (c.sub σ) == some b && fitF fs σ l
/-- The state at hand is one of the template. -/
def Tm.fit (gl : Gl) (τ : Tm) (σ : Nat → E) (st : St) : Bool :=
  decide (st.sz = τ.sz) && oneOne (τ.ren st) τ.boxes.length && gl.all (fun p => decide (p.2 < τ.boxes.length) && Nat.beq (τ.ren st p.2) p.2) && fitT st.facts σ (τ.ren st) τ.boxes.length st τ.live && fitB st.facts σ (τ.ren st) τ.boxes.length st τ.boxes 0 && fitF st.facts σ τ.facts
section
variable {P : Program} {ρ : Env} {w0 : World} {M : Nat → Prop} {gl : Gl} {β : Bm} {w : World} {hp : Hp} {fs : Fs} {σ : Nat → E} {π : Nat → Nat} {n m : Nat}
theorem getD_lt {α : Type} (l : List α) (d : α) {i : Nat} (h : i < l.length) : l.getD i d = l[i] := by simp [h]
theorem lookT_mem : ∀ {l : List (Nat × SV)} {i : Nat} {s : SV}, lookT l i = some s → (i, s) ∈ l
  | [], _, _, h => by cases h
  | (j, t) :: l, i, s, h => by
    unfold lookT at h
    rw [beq_iff] at h
    by_cases he : i = j
    · subst he
      simp at h
      subst h
      exact List.mem_cons_self ..
    · simp [he] at h
      exact List.mem_cons_of_mem _ (lookT_mem h)
theorem fitT_mem {st : St} : ∀ {l : List (Nat × SV)}, fitT fs σ π n st l = true → ∀ p ∈ l, p.1 < st.sz ∧ SV.fit fs σ π n p.2 (st.tmps p.1) = true
  | [], _, p, hp => by cases hp
  | (i, s) :: l, h, p, hp => by
    simp only [fitT, Bool.and_eq_true, decide_eq_true_eq] at h
    rcases List.mem_cons.1 hp with rfl | hp
    · exact h.1
    · exact fitT_mem h.2 p hp
theorem fitB_get {st : St} : ∀ {l : List Box} {j : Nat}, fitB fs σ π n st l j = true → ∀ (k : Nat) (b : Box), l[k]? = some b → (b.rw = true → (st.hp.box (π (j + k))).rw = true) ∧ Bx.fit fs σ π n b.c (st.hp.box (π (j + k))).c = true ∧ π (j + k) < st.hp.n
  | [], _, _, k, b, hk => by simp at hk
  | b :: l, j, h, k, b', hk => by
    simp only [fitB, Bool.and_eq_true, Bool.or_eq_true, Bool.not_eq_true', decide_eq_true_eq] at h
    cases k with
    | zero =>
      obtain rfl : b = b' := by simpa using hk
      refine ⟨fun hr => ?_, h.1.2, h.1.1.1⟩
      rcases h.1.1.2 with h1 | h1
      · rw [h1] at hr; cases hr
      · exact h1
    | succ k =>
      have := fitB_get h.2 k b' (by simpa using hk)
      rw [show j + 1 + k = j + (k + 1) by omega] at this
      exact this
theorem fitF_ok (hf : FsOk ρ fs) : ∀ {l : Fs}, fitF fs σ l = true → FsOk (envSub ρ σ) l
  | [], _ => fun p hp => by cases hp
  | (c, b) :: l, h => by
    simp only [fitF, Bool.and_eq_true, beq_iff_eq] at h
    intro p hp
    rcases List.mem_cons.1 hp with rfl | hp
    · have := decideD_spec hf h.1
      rw [E.sub_ev] at this
      show c.ev (envSub ρ σ) ≠ 0 ↔ b = true
      rw [← this]
      simp
    · exact fitF_ok hf h.2 p hp
theorem rngE_ok {k : IntKind} {e : E} (h : (Lit.int k (e.ev ρ)).wf = true) : FsOk ρ (rngE k e) := by
  intro p hp
  unfold rngE at hp
  split at hp
  · rename_i i
    obtain rfl : p = _ := List.mem_singleton.1 hp
    have := (wf_iff k _).1 h
    show (if k.min ≤ ρ.v i ∧ ρ.v i ≤ k.max then (1 : Int) else 0) ≠ 0 ↔ true = true
    simp only [E.ev] at this
    rw [if_pos this]; simp
  · cases hp
mutual
theorem SV.rngs_ok : ∀ {s : SV}, s.ok ρ n → FsOk ρ s.rngs
  | .int k e, h => by simp only [SV.rngs]; exact rngE_ok h
  | .agg l, h => by simp only [SV.rngs]; exact SV.rngsL_ok h
  | .tuple l, h => by simp only [SV.rngs]; exact SV.rngsL_ok h
  | .bool _, _ => fun p hp => by simp [SV.rngs] at hp
  | .ptr _ _, _ => fun p hp => by simp [SV.rngs] at hp
  | .slice _ _ _ _, _ => fun p hp => by simp [SV.rngs] at hp
  | .map _, _ => fun p hp => by simp [SV.rngs] at hp
  | .str _, _ => fun p hp => by simp [SV.rngs] at hp
  | .raw _, _ => fun p hp => by simp [SV.rngs] at hp
  | .func _ _ _, _ => fun p hp => by simp [SV.rngs] at hp
  | .inp _ _ _ _ _ _, _ => fun p hp => by simp [SV.rngs] at hp
  | .iptr _ _ _ _ _, _ => fun p hp => by simp [SV.rngs] at hp
theorem SV.rngsL_ok : ∀ {l : List SV}, SV.oks ρ n l → FsOk ρ (SV.rngsL l)
  | [], _ => fun p hp => by simp [SV.rngsL] at hp
  | s :: l, h => by simp only [SV.rngsL]; exact fsOk_app (SV.rngs_ok h.1) (SV.rngsL_ok h.2)
end
theorem Bx.rngs_ok {b : Bx} (h : b.ok ρ n) : FsOk ρ b.rngs := by
  cases b with
  | cells c ty t => exact SV.rngsL_ok h
  | ro c _ => exact SV.rngsL_ok h
  | map _ _ => exact fun p hp => by cases hp
  | arr _ _ _ => exact fun p hp => by cases hp
  | gone => exact fun p hp => by cases hp
  | obj _ _ => exact fun p hp => by cases hp
  | view _ _ => exact fun p hp => by cases hp
theorem liveRngs_ok : ∀ {l : List (Nat × SV)}, (∀ p ∈ l, p.2.ok ρ n) → FsOk ρ (liveRngs l)
  | [], _ => fun p hp => by cases hp
  | p :: l, h => fsOk_app (SV.rngs_ok (h p (List.mem_cons_self ..))) (liveRngs_ok fun q hq => h q (List.mem_cons_of_mem _ hq))
theorem boxRngs_ok : ∀ {l : List Box}, (∀ b ∈ l, b.c.ok ρ n) → FsOk ρ (boxRngs l)
  | [], _ => fun p hp => by cases hp
  | b :: l, h => fsOk_app (Bx.rngs_ok (h b (List.mem_cons_self ..))) (boxRngs_ok fun q hq => h q (List.mem_cons_of_mem _ hq))
/-- What nothing is known of. -/
def junkOf (ρ : Env) (β : Bm) (st : St) : Nat → Value := fun i => (st.tmps i).ev ρ β
theorem oneOne_spec {n : Nat} (h : oneOne π n = true) {j k : Nat} (hj : j < n) (hk : k < n) (he : π j = π k) : j = k := by
  have key : ∀ a b, a < n → b < a → π a ≠ π b := fun a b ha hb e => by
    have h1 := List.all_eq_true.1 h a (List.mem_range.2 ha)
    have h2 := List.all_eq_true.1 h1 b (List.mem_range.2 hb)
    rw [e] at h2
    simp at h2
  rcases Nat.lt_trichotomy j k with h1 | h1 | h1
  · exact absurd he.symm (key k j hk h1)
  · exact h1
  · exact absurd he (key j k hj h1)
theorem Tm.fit_run {τ : Tm} {st : St} {a : Act} (hst : Conc ρ w0 M gl β st a w) (h : τ.fit gl σ st = true) : Conc (envSub ρ σ) w0 M gl (fun k => β (τ.ren st k)) (τ.st (junkOf ρ β st)) a w := by
  simp only [Tm.fit, Bool.and_eq_true, decide_eq_true_eq] at h
  obtain ⟨⟨⟨⟨⟨h1, h2⟩, h3⟩, h4⟩, h5⟩, h6⟩ := h
  have hinj : ∀ j k, j < τ.boxes.length → k < τ.boxes.length → τ.ren st j = τ.ren st k → j = k := fun j k hj hk he => oneOne_spec h2 hj hk he
  have hT := fitT_mem h4
  have hB := fitB_get h5
  have box : ∀ (k : Nat) (b : Box), τ.hp.at k = some b → st.hp.at (τ.ren st k) = some (st.hp.box (τ.ren st k)) ∧ (b.rw = true → (st.hp.box (τ.ren st k)).rw = true) ∧ Bx.fit st.facts σ (τ.ren st) τ.boxes.length b.c (st.hp.box (τ.ren st k)).c = true := fun k b hk => by
    obtain ⟨hlt, hb⟩ := Hp.at_some.1 hk
    have hlt' : k < τ.boxes.length := hlt
    have hb' : τ.boxes[k]? = some b := by
      have : τ.boxes.getD k ⟨false, .gone⟩ = b := hb
      rw [List.getElem?_eq_getElem hlt']
      rw [getD_lt _ _ hlt'] at this
      rw [this]
    have := hB k b hb'
    rw [Nat.zero_add] at this
    exact ⟨Hp.at_some.2 ⟨this.2.2, rfl⟩, this.1, this.2.1⟩
  have good : ∀ i, i < τ.sz → ((τ.st (junkOf ρ β st)).tmps i).ev (envSub ρ σ) (fun k => β (τ.ren st k)) = (st.tmps i).ev ρ β ∧ ((τ.st (junkOf ρ β st)).tmps i).ok (envSub ρ σ) τ.boxes.length := fun i hi => by
    simp only [Tm.st]
    cases hl : lookT τ.live i with
    | none => exact ⟨rfl, trivial⟩
    | some s =>
      have hm := hT _ (lookT_mem hl)
      obtain ⟨a1, a2⟩ := SV.fit_spec (β := β) (m := st.hp.n) hst.facts _ _ hm.2
      exact ⟨a1.symm, a2 (hst.good i hm.1)⟩
  have hgood : ∀ (k : Nat) (b : Box), τ.hp.at k = some b → b.c.ok (envSub ρ σ) τ.hp.n := fun k b hk => by
    obtain ⟨b1, b2, b3⟩ := box k b hk
    exact (Bx.fit_spec (β := β) (w := w) hst.facts b3).2.1 (hst.heap.good _ _ b1)
  refine ⟨hst.size.trans h1, fun i hi => ?_, hst.defers, fun i hi => (good i hi).2, ⟨fun k b hk => ?_, fun j k b b' hj hk hb hb' e => ?_, fun k b hk hr hl => ?_, hgood, hst.heap.kept, fun k b hk ha => ?_, hst.heap.objs.elim fun φ ho => ⟨fun k => φ (τ.ren st k), fun k b q es hk e => ?_, fun k b hk hb i hi => ?_, fun j k b b' hj hk hb hjk i hi => ?_⟩⟩, ?_, fun p hp => ?_⟩
  · rw [hst.tmps i (by rw [h1]; exact hi), (good i hi).1]
  · obtain ⟨b1, b2, b3⟩ := box k b hk
    exact (Bx.fit_spec (m := st.hp.n) hst.facts b3).1 _ (hst.heap.lies _ _ b1)
  · obtain ⟨b1, b2, b3⟩ := box j b hj
    obtain ⟨c1, c2, c3⟩ := box k b' hk
    exact hinj j k (Hp.at_lt hj) (Hp.at_lt hk) (hst.heap.inj _ _ _ _ b1 c1 ((Bx.fit_spec (β := β) (w := w) (m := st.hp.n) hst.facts b3).2.2.1 hb) ((Bx.fit_spec (β := β) (w := w) (m := st.hp.n) hst.facts c3).2.2.1 hb') e)
  · obtain ⟨b1, b2, b3⟩ := box k b hk
    exact hst.heap.mine _ _ b1 (b2 hr) ((Bx.fit_spec (β := β) (w := w) (m := st.hp.n) hst.facts b3).2.2.1 hl)
  · obtain ⟨b1, b2, b3⟩ := box k b hk
    exact hst.heap.arrs _ _ b1 ((Bx.fit_spec (β := β) (w := w) (m := st.hp.n) hst.facts b3).2.2.2 ha)
  · obtain ⟨b1, b2, b3⟩ := box k b hk
    rw [e] at b3
    obtain ⟨es', c1, c2⟩ := Bx.fit_obj hst.facts b3
    rw [← c2]
    exact ho.has _ _ q es' b1 c1
  · obtain ⟨b1, b2, b3⟩ := box k b hk
    obtain ⟨q, es, e⟩ := Bx.obj_of hb
    rw [e] at b3
    obtain ⟨es', c1, c2⟩ := Bx.fit_obj hst.facts b3
    exact ho.own _ _ b1 (by rw [c1]; rfl) i hi
  · obtain ⟨b1, b2, b3⟩ := box j b hj
    obtain ⟨d1, d2, d3⟩ := box k b' hk
    obtain ⟨q, es, e⟩ := Bx.obj_of hb
    rw [e] at b3
    obtain ⟨es', c1, c2⟩ := Bx.fit_obj hst.facts b3
    have := ho.apart _ _ _ _ b1 d1 (by rw [c1]; rfl) (fun he => hjk (hinj j k (Hp.at_lt hj) (Hp.at_lt hk) he)) i hi
    refine ⟨fun hv => this.1 ((Bx.fit_spec (β := β) (w := w) (m := st.hp.n) hst.facts d3).2.2.1 hv), fun hv => ?_⟩
    obtain ⟨q', es2, e'⟩ := Bx.obj_of hv
    rw [e'] at d3
    obtain ⟨es3, f1, f2⟩ := Bx.fit_obj hst.facts d3
    exact this.2 (by rw [f1]; rfl)
  · refine fsOk_app (fitF_ok hst.facts h6) (fsOk_app (liveRngs_ok (n := τ.boxes.length) fun p hp => ?_) (boxRngs_ok (n := τ.boxes.length) fun b hb => ?_))
    · have hm := hT p hp
      exact (SV.fit_spec (β := β) (m := st.hp.n) hst.facts _ _ hm.2).2 (hst.good _ hm.1)
    · obtain ⟨k, hk, rfl⟩ := List.getElem_of_mem hb
      exact hgood k _ (Hp.at_some.2 ⟨hk, getD_lt _ _ hk⟩)
  · have := List.all_eq_true.1 h3 p hp
    simp only [Bool.and_eq_true, decide_eq_true_eq] at this
    have e : τ.ren st p.2 = p.2 := Nat.eq_of_beq_eq_true this.2
    exact ⟨by show (β (τ.ren st p.2)).1 = p.1; rw [e]; exact (hst.gl p hp).1, this.1⟩
end

/-! ### Ways that cannot be -/
def ruledOut (fs : Fs) (e : E) : Nat → Int → Bool
  | 0, _ => true
  | k + 1, n => (known0 fs (.bin .eq .i64 e (.lit n)) == some false) && ruledOut fs e k (n + 1)
/-- All values within the bounds are ruled out. -/
def emptyE (fs : Fs) (e : E) : Bool :=
  match (bndOf e fs).lo, (bndOf e fs).hi with
  | some a, some b => decide (b - a < 6) && ruledOut fs e (b - a + 1).toNat a
  | _, _ => false
def absurdB (fs : Fs) : Fs → Bool
  | [] => false
  | (c, _) :: l => (match c with
    | .bin .lt _ x (.lit _) => emptyE fs x
    | .bin .lt _ (.lit _) x => emptyE fs x
    | _ => false) || absurdB fs l
def noWay (fs : Fs) : Bool := absurdF fs fs || absurdB fs fs
section
variable {ρ : Env} {fs : Fs}
theorem ruledOut_spec (hf : FsOk ρ fs) {e : E} : ∀ {k : Nat} {n : Int}, ruledOut fs e k n = true → ∀ i, n ≤ i → i < n + k → e.ev ρ ≠ i
  | 0, n, _, i, h1, h2 => by simp at h2; omega
  | k + 1, n, h, i, h1, h2 => by
    simp only [ruledOut, Bool.and_eq_true, beq_iff_eq] at h
    by_cases hi : i = n
    · subst hi
      have h3 := known0_spec hf h.1
      intro he
      have h4 : (E.bin .eq .i64 e (.lit i)).ev ρ ≠ 0 := by simp [E.ev, BOp.ev, he]
      have := h3.1 h4
      cases this
    · exact ruledOut_spec hf h.2 i (by omega) (by push_cast at h2 ⊢; omega)
theorem emptyE_spec (hf : FsOk ρ fs) {e : E} (h : emptyE fs e = true) : False := by
  unfold emptyE at h
  split at h
  · rename_i a b ha hb
    simp only [Bool.and_eq_true, decide_eq_true_eq] at h
    have hx := bndOf_has (ρ := ρ) (e := e) hf
    have h1 := hx.1 a ha
    have h2 := hx.2 b hb
    exact ruledOut_spec hf h.2 (e.ev ρ) h1 (by omega) rfl
  · cases h
theorem absurdB_spec (hf : FsOk ρ fs) : ∀ {l : Fs}, absurdB fs l = true → False
  | [], h => by cases h
  | (c, b) :: l, h => by
    simp only [absurdB, Bool.or_eq_true] at h
    rcases h with h | h
    · split at h
      · exact emptyE_spec hf h
      · exact emptyE_spec hf h
      · cases h
    · exact absurdB_spec hf h
theorem noWay_spec (hf : FsOk ρ fs) (h : noWay fs = true) : False := by
  simp only [noWay, Bool.or_eq_true] at h
  rcases h with h | h
  · exact absurdF_spec hf hf h
  · exact absurdB_spec hf h
end

/-! ### Loops by templates -/
/-- A loop: its place, its rank (from it the walk comes to loops of smaller ranks alone), the templates of its rounds, its measure. -/
structure Cut where
  p : Path
  rank : Nat
  ts : List Tm
  mea : E
/-- .. and what is known besides, case by case. -/
def Tm.stP (τ : Tm) (g : Nat → Value) (p : Fs) : St := { τ.st g with facts := p ++ (τ.st g).facts }
def leafOk (gl : Gl) (cuts : List Cut) (endOk : Rs → Bool) (rk : Nat) : Sp → Bool
  | .done r => endOk r
  | .loop p st => cuts.any fun c => (c.p == p) && decide (c.rank < rk) && c.ts.any fun τ => τ.fit gl (τ.solve st) st
inductive Lf where
  | back (st : St) | fwd (s : Sp)
def roundT (P : Program) (gl : Gl) (call : Caller) (keep : Nat → List Nat) (fuel : Nat) (C : Code) (p : Path) (b : Code) (st : St) : T Lf :=
  (execP P gl call keep fuel b st).bind fun s => match s with
    | .done r => match r.x with
      | .normal => .ok (.back r.st)
      | _ => (resumeP P gl call keep fuel C p r).map .fwd
    | .loop _ _ => .bad 161
def backOk (gl : Gl) (c : Cut) (st : St) : Bool := c.ts.any fun τ => τ.fit gl (τ.solve st) st && (decideE st.facts (.bin .lt .i64 (c.mea.sub (τ.solve st)) c.mea) == some true)
def lfOk (gl : Gl) (cuts : List Cut) (endOk : Rs → Bool) (c : Cut) : Lf → Bool
  | .back st => backOk gl c st
  | .fwd s => leafOk gl cuts endOk c.rank s
def roundOk (P : Program) (gl : Gl) (call : Caller) (keep : Nat → List Nat) (fuel : Nat) (cuts : List Cut) (endOk : Rs → Bool) (C : Code) (p : Fs) (c : Cut) (τ : Tm) (g : Nat → Value) : Bool :=
  match bodyAt C c.p with
  | some b => (decideE (τ.stP g p).facts (.bin .lt .i64 c.mea (.lit 0)) == some false) && (roundT P gl call keep fuel C c.p b (τ.stP g p)).all (lfOk gl cuts endOk c)
  | none => false
section
variable {P : Program} {ρ : Env} {w0 : World} {M : Nat → Prop} {gl : Gl} {call : Caller} {keep : Nat → List Nat} {fuel : Nat} {cuts : List Cut} {endOk : Rs → Bool} {C : Code} {Q : Exit → Act → World → Prop}
/-- What reading and names mean is the same. -/
def SameEnv (ρ ρ' : Env) : Prop := ρ'.fn = ρ.fn ∧ ρ'.arr = ρ.arr
theorem SameEnv.sub {ρ ρ' : Env} (h : SameEnv ρ ρ') (σ : Nat → E) : SameEnv ρ (envSub ρ' σ) := h
theorem loops_run (hc : ∀ ρ', SameEnv ρ ρ' → CallOk P ρ' w0 M gl call) (hm : P.follows .mixedOrders = true)
    (hend : ∀ ρ' (β : Bm) (r : Rs) (a : Act) (w : World), SameEnv ρ ρ' → Conc ρ' w0 M gl β r.st a w → endOk r = true → Q r.x.to a w)
    (hr : ∀ c ∈ cuts, ∀ τ ∈ c.ts, ∃ ct : CT, ∀ g, ct.all fun p => roundOk P gl call keep fuel cuts endOk C p c τ g = true) :
    ∀ (rk : Nat) (ρ' : Env) (β : Bm) (p : Path) (st : St) (a : Act) (w : World), SameEnv ρ ρ' → leafOk gl cuts endOk rk (.loop p st) = true → Conc ρ' w0 M gl β st a w → LoopAt P C p Q a w
  | 0, ρ', β, p, st, a, w, hρ, h, hst => by
    simp only [leafOk, List.any_eq_true, Bool.and_eq_true, decide_eq_true_eq] at h
    obtain ⟨c, _, ⟨_, h⟩, _⟩ := h
    omega
  | rk + 1, ρ', β, p, st, a, w, hρ, h, hst => by
    simp only [leafOk, List.any_eq_true, Bool.and_eq_true, decide_eq_true_eq] at h
    obtain ⟨c, hcm, ⟨hp, hrk⟩, τ, hτ, hfit⟩ := h
    obtain rfl : c.p = p := by simpa using hp
    obtain ⟨ct0, hct0⟩ := hr c hcm τ hτ
    obtain ⟨p0, _, h0⟩ := CT.some ρ' (hct0 (fun _ => undef))
    unfold roundOk at h0
    split at h0
    rotate_left
    · cases h0
    rename_i b hb
    refine ⟨b, hb, ?_⟩
    -- round by round
    have key : ∀ (m : Nat) (ρ'' : Env) (τ : Tm) (g : Nat → Value) (β : Bm) (a : Act) (w : World), SameEnv ρ ρ'' → τ ∈ c.ts → Conc ρ'' w0 M gl β (τ.st g) a w → (c.mea.ev ρ'').toNat < m → Code.rounds P b (postAt P C c.p Q) m a w := by
      intro m
      induction m with
      | zero => intro ρ'' τ g β a w _ _ _ hlt; omega
      | succ m ih =>
        intro ρ'' τ g β a w hρ'' hτ hst hlt
        obtain ⟨ct1, hct1⟩ := hr c hcm τ hτ
        obtain ⟨p1, hp1, h1⟩ := CT.some ρ'' (hct1 g)
        replace hst : Conc ρ'' w0 M gl β (τ.stP g p1) a w := hst.facts_to (fsOk_app hp1 hst.facts)
        unfold roundOk at h1
        rw [hb] at h1
        simp only [Bool.and_eq_true, beq_iff_eq] at h1
        have hpos := decideE_spec hst.facts h1.1
        have hpos' : 0 ≤ c.mea.ev ρ'' := by
          have : ¬ (if c.mea.ev ρ'' < 0 then (1 : Int) else 0) ≠ 0 := of_decide_eq_false hpos
          by_cases hl : c.mea.ev ρ'' < 0
          · rw [if_pos hl] at this; simp at this
          · omega
        have h2 := T.all_holds (ρ := ρ'') h1.2
        unfold roundT at h2
        rw [T.holds_bind] at h2
        rw [rounds_succ]
        refine execP_run (hc ρ'' hρ'') hm b β _ a w _ hst (T.holds_mono (fun s hs => ?_) h2)
        cases s with
        | loop _ _ => exact hs.elim
        | done r =>
          obtain ⟨x, st'⟩ := r
          have fwd : ∀ x', x' = x → x' ≠ .normal → T.holds ρ'' ((resumeP P gl call keep fuel C c.p ⟨x', st'⟩).map Lf.fwd) (fun lf => lfOk gl cuts endOk c lf = true) → Ends ρ'' w0 M gl β (τ.st g).hp (Exit.then (Code.rounds P b (postAt P C c.p Q) m) (postAt P C c.p Q)) ⟨x', st'⟩ := fun x' hx' hne hs => by
            intro β' a' w' hx hl hss hc'
            rw [T.holds_map'] at hs
            have := resumeP_run (hc ρ'' hρ'') hm C c.p β' ⟨x', st'⟩ a' w' Q hc' (T.holds_mono (fun s' hs' => ?_) hs)
            · cases x' with
              | normal => exact absurd rfl hne
              | exit id => exact this
              | ret => exact this
            · cases s' with
              | done r' => exact fun β2 a2 w2 _ _ _ hc2 => hend ρ'' β2 r' a2 w2 hρ'' hc2 hs'
              | loop p' st2 =>
                intro β2 a2 w2 _ _ _ hc2
                have hs2 : leafOk gl cuts endOk c.rank (.loop p' st2) = true := hs'
                refine loops_run hc hm hend hr rk ρ'' β2 p' st2 a2 w2 hρ'' ?_ hc2
                simp only [leafOk, List.any_eq_true, Bool.and_eq_true, decide_eq_true_eq] at hs2 ⊢
                obtain ⟨c', hcm', ⟨hp', hrk'⟩, hx'⟩ := hs2
                exact ⟨c', hcm', ⟨hp', by omega⟩, hx'⟩
          cases x with
          | normal =>
            intro β' a' w' hx hl hss hc'
            have hs' : backOk gl c st' = true := hs
            simp only [backOk, List.any_eq_true, Bool.and_eq_true, beq_iff_eq] at hs'
            obtain ⟨τ', hτ', hfit', hdec⟩ := hs'
            have hc2 := Tm.fit_run hc' hfit'
            have hd := decideE_spec hc'.facts hdec
            have hd' : (c.mea.ev (envSub ρ'' (τ'.solve st'))) < c.mea.ev ρ'' := by
              have : (if (c.mea.sub (τ'.solve st')).ev ρ'' < c.mea.ev ρ'' then (1 : Int) else 0) ≠ 0 := of_decide_eq_true hd
              rw [E.sub_ev] at this
              by_cases hl : (c.mea.ev (envSub ρ'' (τ'.solve st'))) < c.mea.ev ρ''
              · exact hl
              · rw [if_neg hl] at this; exact absurd rfl this
            obtain ⟨ct3, hct3⟩ := hr c hcm τ' hτ'
            obtain ⟨p3, hp3, h3⟩ := CT.some (envSub ρ'' (τ'.solve st')) (hct3 (junkOf ρ'' β' st'))
            unfold roundOk at h3
            rw [hb] at h3
            simp only [Bool.and_eq_true, beq_iff_eq] at h3
            have hp3 := decideE_spec (fsOk_app hp3 hc2.facts) h3.1
            have hp3' : 0 ≤ c.mea.ev (envSub ρ'' (τ'.solve st')) := by
              have : ¬ (if c.mea.ev (envSub ρ'' (τ'.solve st')) < 0 then (1 : Int) else 0) ≠ 0 := of_decide_eq_false hp3
              by_cases hl : c.mea.ev (envSub ρ'' (τ'.solve st')) < 0
              · rw [if_pos hl] at this; simp at this
              · omega
            exact ih _ τ' _ _ a' w' (hρ''.sub _) hτ' hc2 (by omega)
          | exit id => exact fwd (.exit id) rfl (by intro h; cases h) hs
          | ret => exact fwd .ret rfl (by intro h; cases h) hs
    exact more_rounds ((c.mea.ev (envSub ρ' (τ.solve st))).toNat + 1) (key _ _ τ _ _ a w (hρ.sub _) hτ (Tm.fit_run hst hfit) (by omega))
theorem code_run (hc : ∀ ρ', SameEnv ρ ρ' → CallOk P ρ' w0 M gl call) (hm : P.follows .mixedOrders = true)
    (hend : ∀ ρ' (β : Bm) (r : Rs) (a : Act) (w : World), SameEnv ρ ρ' → Conc ρ' w0 M gl β r.st a w → endOk r = true → Q r.x.to a w)
    (hr : ∀ c ∈ cuts, ∀ τ ∈ c.ts, ∃ ct : CT, ∀ g, ct.all fun p => roundOk P gl call keep fuel cuts endOk C p c τ g = true) {rk : Nat} {β : Bm} {st : St} {a : Act} {w : World} (hst : Conc ρ w0 M gl β st a w)
    (h : (execP P gl call keep fuel C st).holds ρ fun s => leafOk gl cuts endOk rk s = true) : C.wp P Q a w := by
  refine execP_run (hc ρ ⟨rfl, rfl⟩) hm C β st a w Q hst (T.holds_mono (fun s hs => ?_) h)
  cases s with
  | done r => exact fun β2 a2 w2 _ _ _ hc2 => hend ρ β2 r a2 w2 ⟨rfl, rfl⟩ hc2 hs
  | loop p st' => exact fun β2 a2 w2 _ _ _ hc2 => loops_run hc hm hend hr rk ρ β2 p st' a2 w2 ⟨rfl, rfl⟩ hs hc2
end

/-! ### Ends of laws, and their beginnings -/
def lawEnd (P : Program) (fn : Func) (r : Rs) : Bool :=
  match r.x with
  | .exit _ => false
  | _ => match resultsS P r.st fn.results.toList with
    | some vs => isTrueF ⟨packS vs, r.st.hp, r.st.facts⟩ || absurdB r.st.facts r.st.facts
    | none => false
def entrySt (fn : Func) (args : List SV) (hp : Hp) (fs : Fs) : St := { sz := args.length + (fn.ntmps - args.length), tmps := fun i => args.getD i undefS, hp := hp, facts := fs }
end Go.Proofs.YtbjficjcgpgcbaaDoor.SX
namespace Go.Proofs.YtbjficjcgpgcbaaDoor.SX
open Go Go.RowKit
set_option linter.unusedVariables false
set_option linter.unusedSimpArgs false

/-! ### Laws -/
section
variable {P : Program} {ρ : Env} {w0 : World} {M : Nat → Prop} {gl : Gl} {β : Bm} {w : World} {hp : Hp} {fs : Fs}
theorem entry_conc {fn : Func} {args : List SV} (hh : Heap ρ w0 M β hp w) (hf : FsOk ρ fs) (ha : SV.oks ρ hp.n args) (hg : GlOk gl β hp.n) :
    Conc ρ w0 M gl β (entrySt fn args hp fs) { tmps := (SV.evs ρ β args).toArray ++ Array.replicate (fn.ntmps - (SV.evs ρ β args).toArray.size) undef, defers := [] } w := by
  have hlen : (SV.evs ρ β args).toArray.size = args.length := by rw [SV.evs_map]; simp
  refine ⟨by simp [SV.evs_map, entrySt], fun i hi => ?_, rfl, fun i _ => ?_, hh, hf, hg⟩
  · simp only [entrySt] at hi ⊢
    by_cases hia : i < args.length
    · rw [Array.getElem?_append_left (by rw [hlen]; exact hia), List.getElem?_toArray, SV.evs_map, List.getElem?_map]
      simp [hia]
    · rw [Array.getElem?_append_right (by rw [hlen]; omega), hlen]
      rw [Array.getElem?_replicate, if_pos (by omega)]
      simp only [List.getD, List.getElem?_eq_none (Nat.le_of_not_lt hia)]
      rfl
  · simp only [entrySt, List.getD]
    cases hs : args[i]? with
    | none => trivial
    | some s => exact oks_get ha hs
/-- A law with loops, all of whose ways end with true. -/
theorem pays_loops {okF : FuncId → Bool} {sums : Sums} {keep : FuncId → Nat → List Nat} {fuel n : Nat} {cuts : List Cut} {call : Caller} (hcall : call = callF P gl okF sums keep fuel n) (hm : P.follows .mixedOrders = true) (hok : ∀ f, okF f = true → ∀ as w, (callFunc f as).run P w = .ok (.enter f as) w)
    {f : FuncId} {fn : Func} {C : Code} (hfn : P.funcs[f]? = some fn) (hbd : fn.body = some C) {args : List SV} {fs0 : Fs} {rk : Nat} (hh : Heap ρ w (fun _ => False) β hp w) (hg : GlOk gl β hp.n) (hfs : FsOk ρ fs0)
    (hsum : ∀ ρ', SameEnv ρ ρ' → SumsOk P ρ' w (fun _ => False) sums) (hargs : SV.oks ρ hp.n args)
    (hr : ∀ c ∈ cuts, ∀ τ ∈ c.ts, ∃ ct : CT, ∀ g, ct.all fun p => roundOk P gl call (keep f) fuel cuts (lawEnd P fn) C p c τ g = true)
    (h : (execP P gl call (keep f) fuel C (entrySt fn args hp fs0)).all (leafOk gl cuts (lawEnd P fn) rk) = true) :
    Calls P f (SV.evs ρ β args).toArray w fun e w' => e = .returned (.bool true) ∧ Below w.heap.size w w' := by
  subst hcall
  refine calls_of_wp hfn hbd (code_run (fun ρ' hρ => callF_run hm hok (hsum ρ' hρ) n) hm ?_ hr (entry_conc hh hfs hargs hg) (T.all_holds h))
  intro ρ' β' r a w' hρ hst he
  obtain ⟨x, st⟩ := r
  unfold lawEnd at he
  have fin : ∀ vs, resultsS P st fn.results.toList = some vs → (isTrueF ⟨packS vs, st.hp, st.facts⟩ || absurdB st.facts st.facts) = true → a.defers = [] ∧ ∃ v, (results fn a.tmps).run P w' = .ok v w' ∧ (Ending.returned v = .returned (.bool true) ∧ Below w.heap.size w w') := fun vs hvs ht => by
    obtain ⟨r1, r2⟩ := results_run hst hvs
    rw [Bool.or_eq_true] at ht
    rcases ht with ht | ht
    rotate_left
    · exact (absurdB_spec hst.facts ht).elim
    have := isTrueF_spec (o := ⟨packS vs, st.hp, st.facts⟩) hst.facts ht β'
    simp only at this
    rw [this] at r1
    exact ⟨hst.defers, _, r1, rfl, hst.heap.kept.to_below⟩
  cases x with
  | exit id => cases he
  | normal =>
    simp only at he
    split at he
    · rename_i vs hvs; exact fin vs hvs he
    · cases he
  | ret =>
    simp only at he
    split at he
    · rename_i vs hvs; exact fin vs hvs he
    · cases he
end
section
variable {P : Program} {F : Nat → Nat → List Int → Int}
/-- A law with one slice: elements (by whatever proof), none, and a nil slice. -/
theorem pays_slice_by {okF : FuncId → Bool} {sums : Sums} {keep : FuncId → Nat → List Nat} {fuel n : Nat} (tabs : Tabs) (hd : (tabs.map (·.1)).Nodup) (hm : P.follows .mixedOrders = true) (hok : ∀ f, okF f = true → ∀ as w, (callFunc f as).run P w = .ok (.enter f as) w)
    {f : FuncId} {hs : List Ph} (h1 : phOne hs = true) {w : World} (ht : TabsIn tabs w) (hsum : ∀ ns A, SumsOk P (envA F ns A) w (fun _ => False) sums)
    (t1 : ∀ (ns : List Int) (A : Nat → Nat → Int → Int) (β : Bm), Heap (envA F ns A) w (fun _ => False) β (arrHp tabs (phKs hs) (phSize hs)) w → GlOk (tabGl tabs 0) β (tabs.length + 1) → FsOk (envA F ns A) (lenFacts (phSize hs) ++ phFacts hs 0) →
      SV.oks (envA F ns A) (tabs.length + 1) (phArgs tabs.length (phSize hs) none hs 0) →
      Calls P f (SV.evs (envA F ns A) β (phArgs tabs.length (phSize hs) none hs 0)).toArray w fun e w' => e = .returned (.bool true) ∧ Below w.heap.size w w')
    (t2 : (callF P (tabGl tabs 0) okF sums keep fuel n f (phArgs tabs.length (phSize hs) (some (inpNo tabs.length (phKs hs).length (phSize hs))) hs 0) (noHp tabs) (phFacts hs 0)).all isTrueF = true)
    (t3 : (callF P (tabGl tabs 0) okF sums keep fuel n f (phArgs tabs.length (phSize hs) (some rawNil) hs 0) (noHp tabs) (phFacts hs 0)).all isTrueF = true)
    (ns : List Int) (ss : List Value) (hns : phFits hs ns) (hlen : ns.length = phSize hs) (hss : slFits w hs ss) :
    Calls P f (phVals hs ns ss).toArray w fun e w' => e = .returned (.bool true) ∧ Below w.heap.size w w' := by
  obtain ⟨hz, hks, S, hS, hget⟩ := phOne_spec h1 hss
  have hT := tab_heap hd ht (fun _ => False)
  have hgl : ∀ {bv : Nat × Nat}, GlOk (tabGl tabs 0) (upd (tabB tabs) tabs.length bv) (tabs.length + 1) := fun {bv} => tab_gl (fun j p hj => by
      have hjl := (List.getElem?_eq_some_iff.1 hj).1
      have : upd (tabB tabs) tabs.length bv (0 + j) = tabB tabs j := by rw [Nat.zero_add]; exact upd_ext _ _ _ j hjl
      rw [this]; simp [tabB, hj]) (by omega)
  have go : ∀ (len cap : Int), phVals hs (ns ++ [len, cap]) ss = phVals hs ns ss ∧ phFits hs (ns ++ [len, cap]) := fun len cap => by
    obtain ⟨a, b⟩ := ph_append (hs := hs) (ms := [len, cap]) (ss := ss) hlen
    exact ⟨a, b.2 hns⟩
  have hv1 : ∀ (len cap : Int), (ns ++ [len, cap]).getD (phSize hs) 0 = len ∧ (ns ++ [len, cap]).getD (phSize hs + 1) 0 = cap := fun len cap => by
    rw [← hlen]
    simp
  have no : ∀ (raw : SV) (bv : Nat × Nat) (len cap : Int) (A : Nat → Nat → Int → Int), raw.ev (envA F (ns ++ [len, cap]) A) (upd (tabB tabs) tabs.length bv) = S → raw.ok (envA F (ns ++ [len, cap]) A) (tabs.length + 1) →
      (callF P (tabGl tabs 0) okF sums keep fuel n f (phArgs tabs.length (phSize hs) (some raw) hs 0) (noHp tabs) (phFacts hs 0)).all isTrueF = true →
      Calls P f (phVals hs ns ss).toArray w fun e w' => e = .returned (.bool true) ∧ Below w.heap.size w w' := fun raw bv len cap A hev hrk tr => by
    obtain ⟨g1, g2⟩ := go len cap
    obtain ⟨p1, p2⟩ := phArgs_spec (F := F) (A := A) (n := tabs.length + 1) (k := tabs.length) (m := phSize hs) (raw := some raw) (ks := phKs hs) hev hrk (hs := hs) (i := 0) (ss := ss) g2 hks hget
    rw [List.drop_zero, g1] at p1
    rw [← p1]
    exact pays_heap (hp := noHp tabs) hm hok ((hT (envA F (ns ++ [len, cap]) A)).pushRo (b := .gone) rfl trivial trivial (fun h => by cases h)) hgl (phFacts_ok g2) (hsum _ _) p2 (T.all_holds tr)
  rcases hS with hS | ⟨b, off, len, cap, c, hS, hle, hmax, hb, hcell⟩
  · exact no rawNil (0, 0) 0 0 (fun _ _ _ => 0) hS.symm trivial t3
  · by_cases h0 : len = 0
    · subst h0
      obtain ⟨v1, v2⟩ := hv1 0 cap
      refine no (inpNo tabs.length (phKs hs).length (phSize hs)) (b, off) 0 cap (fun _ _ _ => 0) ?_ ⟨Nat.lt_succ_self _, (show (Lit.int .i64 0).wf = true by decide), Int.le_refl _, ?_, by simp [E.ev]⟩ t2
      · rw [hS]
        simp only [inpNo, SV.ev, upd_same, E.ev, envA, v2]
        simp
      · simp only [E.ev, envA, v2]
        exact Int.natCast_nonneg _
    · obtain ⟨g1, g2⟩ := go len cap
      obtain ⟨v1, v2⟩ := hv1 len cap
      have hmx : (cap : Int) ≤ 9223372036854775807 := by unfold maxLen at hmax; omega
      have i1 : IntKind.i64.min = -9223372036854775808 := by decide
      have i2 : IntKind.i64.max = 9223372036854775807 := by decide
      have hr : (SV.inp tabs.length (phKs hs).length 0 (.var (phSize hs)) (.var (phSize hs)) (.var (phSize hs + 1))).ok (envA F (ns ++ [(len : Int), (cap : Int)]) (arrOf (phKs hs) c)) (tabs.length + 1) := by
        refine ⟨Nat.lt_succ_self _, ?_, ?_, ?_, ?_⟩ <;> simp only [E.ev, envA, v1, v2]
        · exact (wf_iff .i64 _).2 (by rw [i1, i2]; omega)
        · exact Int.natCast_nonneg _
        · omega
        · omega
      obtain ⟨p1, p2⟩ := phArgs_spec (F := F) (A := arrOf (phKs hs) c) (β := upd (tabB tabs) tabs.length (b, off)) (n := tabs.length + 1) (k := tabs.length) (m := phSize hs) (raw := none) (ks := phKs hs) (S := S) (by
        rw [hS]
        simp only [Option.getD_none, SV.ev, upd_same, E.ev, envA, v1, v2]
        simp) hr (hs := hs) (i := 0) (ss := ss) g2 hks hget
      rw [List.drop_zero, g1] at p1
      rw [← p1]
      refine t1 (ns ++ [(len : Int), (cap : Int)]) (arrOf (phKs hs) c) _ ((hT _).pushRo (b := .arr 0 (phKs hs) (.var (phSize hs))) (bv := (b, off)) rfl trivial ?_ (fun _ => ⟨hb (by omega), fun h => h⟩)) hgl ?_ p2
      · intro i f' l hi hl
        simp only [E.ev, envA, v1] at hi
        have hi' : i < len := by simpa using hi
        obtain ⟨q1, q2⟩ := arrOf_spec (F := F) (ns := ns ++ [(len : Int), (cap : Int)]) hl (hcell i f' l hl).1
        exact ⟨by rw [q1]; exact (hcell i f' l hl).2 hi', q2⟩
      · refine fsOk_app ?_ (phFacts_ok g2)
        intro p hp
        simp only [lenFacts, List.mem_cons, List.not_mem_nil, or_false] at hp
        rcases hp with rfl | rfl | rfl | rfl <;> simp only [E.ev, BOp.ev, envA, v1, v2, i1, i2]
        · have : (0 : Int) < len := by omega
          rw [if_pos this]; simp
        · rw [if_pos (by omega)]; simp
        · rw [if_pos (by omega)]; simp
        · have : ¬ (cap : Int) < len := by omega
          rw [if_neg this]; simp
end
end Go.Proofs.YtbjficjcgpgcbaaDoor.SX
namespace Go.Proofs.YtbjficjcgpgcbaaDoor.SX
open Go Go.RowKit
set_option linter.unusedVariables false
set_option linter.unusedSimpArgs false
section
variable {P : Program} {ρ : Env} {w0 : World} {M : Nat → Prop} {gl : Gl} {call : Caller} {keep : Nat → List Nat} {fuel : Nat} {C : Code} {Q : Exit → Act → World → Prop}
/-- What a round comes to, as it is seen: back at the loop (is it the template? what are its variables?), or out of it. -/
inductive Vw where
  | back (ok : Bool) (vs : List E)
  | out (x : Ex) (v : Option SV)
  | lost
def vwOf (P : Program) (fn : Func) (gl : Gl) (τ : Tm) (n : Nat) : Lf → Vw
  | .back st => .back (τ.fit gl (τ.solve st) st) ((List.range n).map (τ.solve st))
  | .fwd (.done r) => .out r.x ((resultsS P r.st fn.results.toList).map packS)
  | .fwd (.loop _ _) => .lost
/-- The variables of a template below n; the others stay. -/
def envSet (ρ : Env) (n : Nat) (vs : List Int) : Env := ⟨fun i => if i < n then vs.getD i 0 else ρ.v i, ρ.arr, ρ.fn⟩
theorem rounds_le {b : Code} {Q : Exit → Act → World → Prop} : ∀ {n m : Nat} {a : Act} {w : World}, n ≤ m → Code.rounds P b Q n a w → Code.rounds P b Q m a w
  | 0, _, _, _, _, h => h.elim
  | n + 1, 0, _, _, hnm, _ => by omega
  | n + 1, m + 1, a, w, hnm, h => by
    rw [rounds_succ] at *
    exact wp_mono h fun e a w he => by
      cases e with
      | normal => exact rounds_le (by omega) (show Code.rounds P b Q n a w from he)
      | exit id => exact he
      | goto l => exact he
      | ret => exact he
      | panic c => exact he
      | outgrown => exact he
theorem loop_inv {fn : Func} {n : Nat} (hc : ∀ ρ', SameEnv ρ ρ' → CallOk P ρ' w0 M gl call) (hm : P.follows .mixedOrders = true) {p : Path} {b : Code} (hb : bodyAt C p = some b) {τ : Tm} (I : Env → Nat → Prop) (R : Env → SV → Prop)
    (hround : ∀ ρ' m g, SameEnv ρ ρ' → FsOk ρ' (τ.st g).facts → I ρ' m → ((roundT P gl call keep fuel C p b (τ.st g)).map (vwOf P fn gl τ n)).holds ρ' fun v => match v with
      | .back ok vs => ok = true ∧ ∀ σ : Nat → E, (∀ i, i < n → σ i = vs.getD i (.var i)) → ∃ m', m' < m ∧ I (envSub ρ' σ) m'
      | .out (.exit _) _ => False
      | .out _ (some v) => R ρ' v
      | .out _ none => False
      | .lost => False)
    (hend : ∀ ρ' (β : Bm) (r : Rs) (v : SV) (a : Act) (w : World), SameEnv ρ ρ' → Conc ρ' w0 M gl β r.st a w → (∀ id, r.x ≠ .exit id) → (resultsS P r.st fn.results.toList).map packS = some v → R ρ' v → Q r.x.to a w) :
    ∀ (m : Nat) (ρ' : Env) (g : Nat → Value) (β : Bm) (a : Act) (w : World), SameEnv ρ ρ' → I ρ' m → Conc ρ' w0 M gl β (τ.st g) a w → Code.rounds P b (postAt P C p Q) (m + 1) a w := by
  intro m
  induction m using Nat.strongRecOn with
  | _ m ih =>
    intro ρ' g β a w hρ hI hst
    have h := T.holds_map'.1 (hround ρ' m g hρ hst.facts hI)
    unfold roundT at h
    rw [T.holds_bind] at h
    rw [rounds_succ]
    refine execP_run (hc ρ' hρ) hm b β _ a w _ hst (T.holds_mono (fun s hs => ?_) h)
    cases s with
    | loop _ _ => exact hs.elim
    | done r =>
      obtain ⟨x, st'⟩ := r
      have fwd : ∀ x', x' = x → x' ≠ .normal → T.holds ρ' ((resumeP P gl call keep fuel C p ⟨x', st'⟩).map Lf.fwd) (fun lf => match vwOf P fn gl τ n lf with
          | .back ok vs => ok = true ∧ ∀ σ : Nat → E, (∀ i, i < n → σ i = vs.getD i (.var i)) → ∃ m', m' < m ∧ I (envSub ρ' σ) m'
          | .out (.exit _) _ => False
          | .out _ (some v) => R ρ' v
          | .out _ none => False
          | .lost => False) → Ends ρ' w0 M gl β (τ.st g).hp (Exit.then (Code.rounds P b (postAt P C p Q) m) (postAt P C p Q)) ⟨x', st'⟩ := fun x' hx' hne hs => by
        intro β' a' w' hx hl hss hc'
        rw [T.holds_map'] at hs
        have := resumeP_run (hc ρ' hρ) hm C p β' ⟨x', st'⟩ a' w' Q hc' (T.holds_mono (fun s' hs' => ?_) hs)
        · cases x' with
          | normal => exact absurd rfl hne
          | exit id => exact this
          | ret => exact this
        · cases s' with
          | loop _ _ => exact hs'.elim
          | done r' =>
            intro β2 a2 w2 _ _ _ hc2
            obtain ⟨y, st2⟩ := r'
            cases hv : (resultsS P st2 fn.results.toList).map packS with
            | none =>
              simp only [vwOf, hv] at hs'
              cases y <;> exact hs'.elim
            | some v =>
              simp only [vwOf, hv] at hs'
              cases y with
              | exit id => exact hs'.elim
              | normal => exact hend ρ' β2 ⟨.normal, st2⟩ v a2 w2 hρ hc2 (fun id h => by cases h) hv hs'
              | ret => exact hend ρ' β2 ⟨.ret, st2⟩ v a2 w2 hρ hc2 (fun id h => by cases h) hv hs'
      cases x with
      | normal =>
        intro β' a' w' hx hl hss hc'
        obtain ⟨hfit, hI'⟩ : τ.fit gl (τ.solve st') st' = true ∧ ∀ σ : Nat → E, (∀ i, i < n → σ i = ((List.range n).map (τ.solve st')).getD i (.var i)) → ∃ m', m' < m ∧ I (envSub ρ' σ) m' := hs
        obtain ⟨m', hlt, hi⟩ := hI' (τ.solve st') (fun i hi => by simp [hi])
        have hc2 := Tm.fit_run hc' hfit
        have := ih m' hlt _ _ _ a' w' (hρ.sub _) hi hc2
        show Code.rounds P b (postAt P C p Q) m a' w'
        exact rounds_le (by omega) this
      | exit id => exact fwd (.exit id) rfl (by intro h; cases h) hs
      | ret => exact fwd .ret rfl (by intro h; cases h) hs
end
end Go.Proofs.YtbjficjcgpgcbaaDoor.SX
