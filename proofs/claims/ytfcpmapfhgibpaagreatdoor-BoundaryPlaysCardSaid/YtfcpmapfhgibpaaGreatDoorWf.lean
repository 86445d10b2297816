/- The executor: loops, contracts, memos, methods. -/
import Derived.Test.YtfcpmapfhgibpaaGreatDoorWe
import Derived.Test.YtfcpmapfhgibpaaGreatDoorWb
set_option linter.unusedVariables false
set_option linter.unusedSimpArgs false
set_option maxRecDepth 1000000
namespace Go.Proofs.YtfcpmapfhgibpaaGreatDoor
namespace SX
open Go Go.RowKit
abbrev Path := List Nat
inductive Sp where
 | done (r : Rs)
 | loop (p : Path) (st : St)
def Sp.under (i : Nat) : Sp -> Sp
 | .done r => .done r
 | .loop p st => .loop (i :: p) st
def exitIn (id : Nat) : Ex -> Ex
 | .exit j => if j = id then .normal else .exit j
 | x => x
def Sp.inBlock (id : Nat) : Sp -> Sp
 | .done r => .done ⟨exitIn id r.x, r.st⟩
 | .loop p st => .loop (0 :: p) st
def execP (P : Program) (gl : Gl) (call : Caller) (keep : Nat -> List Nat) (fuel : Nat) : Code -> St -> T Sp
 | .seq a b, st => (execP P gl call keep fuel a st).bind fun s => match s with
  | .loop p st => .ok (.loop (0 :: p) st)
  | .done r => match r.x with
   | .normal => (execP P gl call keep fuel b r.st).map (Sp.under 1)
   | _ => .ok (.done r)
 | .cond c a b, st => match st.get gl c with
  | .bool e => split st.facts e (fun fs => (execP P gl call keep fuel a { st with facts := fs }).map (Sp.under 0)) (fun fs => (execP P gl call keep fuel b { st with facts := fs }).map (Sp.under 1))
  | _ => .bad 141
 | .block id c, st => (execP P gl call keep fuel c st).map (Sp.inBlock id)
 | .loop _, st => .ok (.loop [] st)
 | .scope c, st => (execP P gl call keep fuel c st).map (Sp.under 0)
 | .skip, st => .ok (.done ⟨.normal, st⟩)
 | .label _, st => .ok (.done ⟨.normal, st⟩)
 | .region id ops draw, st => (exec P gl call keep fuel (.region id ops draw) st).map .done
 | .exit id, st => .ok (.done ⟨.exit id, st⟩)
 | .ret, st => .ok (.done ⟨.ret, st⟩)
 | _, _ => .bad 142
def resumeP (P : Program) (gl : Gl) (call : Caller) (keep : Nat -> List Nat) (fuel : Nat) : Code -> Path -> Rs -> T Sp
 | .seq a b, i :: p, r => if i = 0 then (resumeP P gl call keep fuel a p r).bind fun s => match s with
   | .loop p st => .ok (.loop (0 :: p) st)
   | .done r => match r.x with
    | .normal => (execP P gl call keep fuel b r.st).map (Sp.under 1)
    | _ => .ok (.done r)
  else (resumeP P gl call keep fuel b p r).map (Sp.under 1)
 | .cond _ a b, i :: p, r => if i = 0 then (resumeP P gl call keep fuel a p r).map (Sp.under 0) else (resumeP P gl call keep fuel b p r).map (Sp.under 1)
 | .block id c, _ :: p, r => (resumeP P gl call keep fuel c p r).map (Sp.inBlock id)
 | .scope c, _ :: p, r => (resumeP P gl call keep fuel c p r).map (Sp.under 0)
 | .loop _, [], r => .ok (.done r)
 | .loop c, _ :: p, r => (resumeP P gl call keep fuel c p r).bind fun s => match s with
  | .loop p st => .ok (.loop (0 :: p) st)
  | .done r => match r.x with
   | .normal => .ok (.loop [] r.st)
   | _ => .ok (.done r)
 | _, _, _ => .bad 160
def More (P : Program) (c : Code) (Q : Exit -> Act -> World -> Prop) (a : Act) (w : World) : Prop := ∀ (b : Frame) (k : List Item) (cs : List Frame), ∃ e a' w', Q e a' w' /\ Arrives P (lone (b.at a (.code c :: .inLoop c :: k)) cs w) b k cs e a' w'
theorem more_loop {P : Program} {c : Code} {Q : Exit -> Act -> World -> Prop} {a : Act} {w : World} (h : More P c Q a w) : (Code.loop c).wp P Q a w := by
 intro b k cs; obtain ⟨e, a', w', hq, harr⟩ := h b k cs; exact ⟨e, a', w', hq, .of_steps (.one step_loop) harr⟩
theorem more_step {P : Program} {c : Code} {Q : Exit -> Act -> World -> Prop} {a : Act} {w : World} (h : c.wp P (Exit.then (More P c Q) Q) a w) : More P c Q a w := by
 intro b k cs; obtain ⟨e, a₁, w₁, hq, harr⟩ := h b (.inLoop c :: k) cs; cases e with
 | normal =>
  obtain ⟨e₂, a₂, w₂, hq₂, harr₂⟩ := hq b k cs; exact ⟨e₂, a₂, w₂, hq₂, .of_steps (Steps.trans harr (.one step_inLoop)) harr₂⟩
 | exit id => exact ⟨_, a₁, w₁, hq, .pass (x := .inLoop c) rfl (fun _ _ => .inl (by simp)) harr⟩
 | goto l => exact ⟨_, a₁, w₁, hq, .pass (x := .inLoop c) rfl (fun _ _ => .inl (by simp)) harr⟩
 | ret => exact ⟨_, a₁, w₁, hq, .pass (x := .inLoop c) rfl (fun _ _ => .inl (by simp)) harr⟩
 | panic ch => exact ⟨_, a₁, w₁, hq, .pass (x := .inLoop c) rfl (fun _ _ => .inl (by simp)) harr⟩
 | outgrown => exact ⟨_, a₁, w₁, hq, .pass (x := .inLoop c) rfl (fun _ _ => .inl (by simp)) harr⟩
theorem more_rounds {P : Program} {c : Code} {Q : Exit -> Act -> World -> Prop} : ∀ (n : Nat) {a : Act} {w : World}, Code.rounds P c Q n a w -> More P c Q a w
 | 0, _, _, h => h.elim
 | n + 1, _, _, h => more_step (wp_mono h fun e a w hq => by
  cases e with
  | normal => exact more_rounds n hq
  | exit id => exact hq
  | goto l => exact hq
  | ret => exact hq
  | panic ch => exact hq
  | outgrown => exact hq)
def postAt (P : Program) : Code -> Path -> (Exit -> Act -> World -> Prop) -> Exit -> Act -> World -> Prop
 | .seq a b, i :: p, Q => if i = 0 then postAt P a p (Exit.then (b.wp P Q) Q) else postAt P b p Q
 | .cond _ a b, i :: p, Q => if i = 0 then postAt P a p Q else postAt P b p Q
 | .block id c, _ :: p, Q => postAt P c p (Exit.inBlock id Q)
 | .scope c, _ :: p, Q => postAt P c p (Exit.noGoto Q)
 | .loop c, _ :: p, Q => postAt P c p (Exit.then (More P c Q) Q)
 | _, _, Q => Q
def bodyAt : Code -> Path -> Option Code
 | .seq a b, i :: p => if i = 0 then bodyAt a p else bodyAt b p
 | .cond _ a b, i :: p => if i = 0 then bodyAt a p else bodyAt b p
 | .block _ c, _ :: p => bodyAt c p
 | .scope c, _ :: p => bodyAt c p
 | .loop c, [] => some c
 | .loop c, _ :: p => bodyAt c p
 | _, _ => none
section
variable {P : Program} {ρ : Env} {w0 : World} {M : Nat -> Prop} {gl : Gl} {β : Bm} {w : World} {hp : Hp} {fs : Fs}
theorem T.holds_map' {α γ : Type} {f : α -> γ} {Q : γ -> Prop} {t : T α} : (t.map f).holds ρ Q ↔ t.holds ρ fun a => Q (f a) := by
 unfold T.map; rw [T.holds_bind]; exact Iff.rfl
def LoopAt (P : Program) (c : Code) (p : Path) (Q : Exit -> Act -> World -> Prop) (a : Act) (w : World) : Prop := ∃ b, bodyAt c p = some b /\ More P b (postAt P c p Q) a w
def Reach (P : Program) (ρ : Env) (w0 : World) (M : Nat -> Prop) (gl : Gl) (β : Bm) (hp : Hp) (c : Code) (Q : Exit -> Act -> World -> Prop) : Sp -> Prop
 | .done r => Ends ρ w0 M gl β hp Q r
 | .loop p st => Later ρ w0 M gl β hp st (LoopAt P c p Q)
theorem Reach.trans {β1 : Bm} {st1 : St} {c : Code} {Q : Exit -> Act -> World -> Prop} {s : Sp} (hx : Ext hp.n β β1) (hl : hp.n <= st1.hp.n) (hs : Stay hp st1.hp) (h : Reach P ρ w0 M gl β hp c Q s) : Reach P ρ w0 M gl β1 st1.hp c Q s := by
 cases s with
 | done r => exact Ends.trans hx hl hs h
 | loop p st => exact Later.trans hx hl hs h
theorem reach_under {i : Nat} {c c' : Code} {Q Q' : Exit -> Act -> World -> Prop} {s : Sp} (h1 : ∀ p, bodyAt c (i :: p) = bodyAt c' p) (h2 : ∀ p, postAt P c (i :: p) Q = postAt P c' p Q') (hd : ∀ r, Ends ρ w0 M gl β hp Q r -> Ends ρ w0 M gl β hp Q' r)
  (h : Reach P ρ w0 M gl β hp c Q (s.under i)) : Reach P ρ w0 M gl β hp c' Q' s := by
 cases s with
 | done r => exact hd r h
 | loop p st =>
  intro β' a' w' e1 e2 e3 e4; obtain ⟨b, hb, hw⟩ := h β' a' w' e1 e2 e3 e4; rw [h1] at hb; rw [h2] at hw; exact ⟨b, hb, hw⟩
theorem inBlock_to {id : Nat} {Q : Exit -> Act -> World -> Prop} {x : Ex} {a : Act} {w : World} (h : Q (exitIn id x).to a w) : Exit.inBlock id Q x.to a w := by
 cases x with
 | normal => exact h
 | ret => exact h
 | exit j =>
  show Exit.inBlock id Q (.exit j) a w; unfold Exit.inBlock; simp only; simp only [exitIn] at h; split
  ·rename_i he; rw [if_pos he] at h; exact h
  ·rename_i he; rw [if_neg he] at h; exact h
theorem reach_block {id : Nat} {c : Code} {Q : Exit -> Act -> World -> Prop} {s : Sp} (h : Reach P ρ w0 M gl β hp (.block id c) Q (s.inBlock id)) : Reach P ρ w0 M gl β hp c (Exit.inBlock id Q) s := by
 cases s with
 | done r => exact fun β' a' w' e1 e2 e3 e4 => inBlock_to (h β' a' w' e1 e2 e3 e4)
 | loop p st =>
  intro β' a' w' e1 e2 e3 e4; obtain ⟨b, hb, hw⟩ := h β' a' w' e1 e2 e3 e4; exact ⟨b, hb, hw⟩
theorem reach_scope {c : Code} {Q : Exit -> Act -> World -> Prop} {s : Sp} (h : Reach P ρ w0 M gl β hp (.scope c) Q (s.under 0)) : Reach P ρ w0 M gl β hp c (Exit.noGoto Q) s :=
 reach_under (c := .scope c) (fun _ => rfl) (fun _ => rfl) (fun r hr β' a' w' e1 e2 e3 e4 => by
  have := hr β' a' w' e1 e2 e3 e4; obtain ⟨x, st⟩ := r; cases x <;> exact this) h
theorem execP_run {call : Caller} (hc : CallOk P ρ w0 M gl call) (hm : P.follows .mixedOrders = true) {keep : Nat -> List Nat} {fuel : Nat} :
  ∀ (c : Code) (β : Bm) (st : St) (a : Act) (w : World) (Q : Exit -> Act -> World -> Prop), Conc ρ w0 M gl β st a w -> ((execP P gl call keep fuel c st).holds ρ (Reach P ρ w0 M gl β st.hp c Q)) -> c.wp P Q a w
 | .skip, β, st, a, w, Q, hst, h => wp_skip (h β a w (Ext.refl _ _) (Nat.le_refl _) (Stay.refl _) hst)
 | .label _, β, st, a, w, Q, hst, h => wp_label (h β a w (Ext.refl _ _) (Nat.le_refl _) (Stay.refl _) hst)
 | .exit _, β, st, a, w, Q, hst, h => wp_exit (h β a w (Ext.refl _ _) (Nat.le_refl _) (Stay.refl _) hst)
 | .ret, β, st, a, w, Q, hst, h => wp_ret (h β a w (Ext.refl _ _) (Nat.le_refl _) (Stay.refl _) hst)
 | .region id ops draw, β, st, a, w, Q, hst, h => by
  unfold execP at h; rw [T.holds_map'] at h; exact exec_run hc hm _ β st a w Q hst h
 | .seq x y, β, st, a, w, Q, hst, h => by
  unfold execP at h; rw [T.holds_bind] at h; refine wp_seq (execP_run hc hm x β st a w _ hst (T.holds_mono (fun s hs => ?_) h))
  cases s with
  | loop p st' => exact hs
  | done r =>
   obtain ⟨e, st'⟩ := r; cases e with
   | normal =>
    simp only at hs; rw [T.holds_map'] at hs; exact fun β' a' w' hx hl hss hc' => execP_run hc hm y β' st' a' w' Q hc' (T.holds_mono (fun r' hr' => (reach_under (c := .seq x y) (i := 1) (fun _ => rfl) (fun _ => rfl) (fun _ h => h) hr').trans hx hl hss) hs)
   | exit id => exact hs
   | ret => exact hs
 | .cond c x y, β, st, a, w, Q, hst, h => by
  unfold execP at h; split at h
  ·rename_i e he
   have hev := hst.get_ev c; rw [he] at hev; obtain ⟨fs', hf', h'⟩ := split_holds hst.facts h; have hst' := hst.facts_to hf'; rcases h' with ⟨h1, h2⟩ | ⟨h1, h2⟩
   ·rw [T.holds_map'] at h2
    exact wp_cond_true (by rw [<- hev]; simp [SV.ev, h1]) (execP_run hc hm x β _ a w Q hst' (T.holds_mono (fun r' hr' => reach_under (c := .cond c x y) (i := 0) (fun _ => rfl) (fun _ => rfl) (fun _ h => h) hr') h2))
   ·rw [T.holds_map'] at h2
    exact wp_cond_false (by rw [<- hev]; simp [SV.ev, h1]) (execP_run hc hm y β _ a w Q hst' (T.holds_mono (fun r' hr' => reach_under (c := .cond c x y) (i := 1) (fun _ => rfl) (fun _ => rfl) (fun _ h => h) hr') h2))
  ·exact h.elim
 | .block id c, β, st, a, w, Q, hst, h => by
  unfold execP at h; rw [T.holds_map'] at h; exact wp_block (execP_run hc hm c β st a w _ hst (T.holds_mono (fun s hs => reach_block hs) h))
 | .loop c, β, st, a, w, Q, hst, h => by
  obtain ⟨b, hb, hw⟩ := h β a w (Ext.refl _ _) (Nat.le_refl _) (Stay.refl _) hst; simp only [bodyAt, sEq] at hb; subst hb; exact more_loop hw
 | .scope c, β, st, a, w, Q, hst, h => by
  unfold execP at h; rw [T.holds_map'] at h; exact wp_scope_straight (execP_run hc hm c β st a w _ hst (T.holds_mono (fun s hs => reach_scope hs) h))
 | .rangeFunc _ _ _ _, _, _, _, _, _, _, h => h.elim
 | .goto _, _, _, _, _, _, _, h => h.elim
 | .refuse _, _, _, _, _, _, _, h => h.elim
theorem resumeP_run {call : Caller} (hc : CallOk P ρ w0 M gl call) (hm : P.follows .mixedOrders = true) {keep : Nat -> List Nat} {fuel : Nat} :
  ∀ (c : Code) (p : Path) (β : Bm) (r : Rs) (a : Act) (w : World) (Q : Exit -> Act -> World -> Prop), Conc ρ w0 M gl β r.st a w -> ((resumeP P gl call keep fuel c p r).holds ρ (Reach P ρ w0 M gl β r.st.hp c Q)) -> postAt P c p Q r.x.to a w
 | .seq x y, i :: p, β, r, a, w, Q, hst, h => by
  unfold resumeP at h; unfold postAt; split at h
  ·rename_i hi
   subst hi; rw [if_pos rfl]; rw [T.holds_bind] at h; refine resumeP_run hc hm x p β r a w _ hst (T.holds_mono (fun s hs => ?_) h)
   cases s with
   | loop p st' => exact hs
   | done r =>
    obtain ⟨e, st'⟩ := r; cases e with
    | normal =>
     simp only at hs; rw [T.holds_map'] at hs; exact fun β' a' w' hx hl hss hc' => execP_run hc hm y β' st' a' w' Q hc' (T.holds_mono (fun r' hr' => (reach_under (c := .seq x y) (i := 1) (fun _ => rfl) (fun _ => rfl) (fun _ h => h) hr').trans hx hl hss) hs)
    | exit id => exact hs
    | ret => exact hs
  ·rename_i hi
   rw [if_neg hi]; rw [T.holds_map'] at h; exact resumeP_run hc hm y p β r a w _ hst (T.holds_mono (fun s hs => reach_under (c := .seq x y) (i := 1) (fun _ => rfl) (fun _ => rfl) (fun _ h => h) hs) h)
 | .cond c x y, i :: p, β, r, a, w, Q, hst, h => by
  unfold resumeP at h; unfold postAt; split at h
  ·rename_i hi
   subst hi; rw [if_pos rfl]; rw [T.holds_map'] at h; exact resumeP_run hc hm x p β r a w _ hst (T.holds_mono (fun s hs => reach_under (c := .cond c x y) (i := 0) (fun _ => rfl) (fun _ => rfl) (fun _ h => h) hs) h)
  ·rename_i hi
   rw [if_neg hi]; rw [T.holds_map'] at h; exact resumeP_run hc hm y p β r a w _ hst (T.holds_mono (fun s hs => reach_under (c := .cond c x y) (i := 1) (fun _ => rfl) (fun _ => rfl) (fun _ h => h) hs) h)
 | .block id c, _ :: p, β, r, a, w, Q, hst, h => by
  unfold resumeP at h; unfold postAt; rw [T.holds_map'] at h; exact resumeP_run hc hm c p β r a w _ hst (T.holds_mono (fun s hs => reach_block hs) h)
 | .scope c, _ :: p, β, r, a, w, Q, hst, h => by
  unfold resumeP at h; unfold postAt; rw [T.holds_map'] at h; exact resumeP_run hc hm c p β r a w _ hst (T.holds_mono (fun s hs => reach_scope hs) h)
 | .loop c, [], β, r, a, w, Q, hst, h => by
  unfold postAt; exact h β a w (Ext.refl _ _) (Nat.le_refl _) (Stay.refl _) hst
 | .loop c, _ :: p, β, r, a, w, Q, hst, h => by
  unfold resumeP at h; unfold postAt; rw [T.holds_bind] at h; refine resumeP_run hc hm c p β r a w _ hst (T.holds_mono (fun s hs => ?_) h)
  cases s with
  | loop p st' =>
   intro β' a' w' e1 e2 e3 e4; obtain ⟨b, hb, hw⟩ := hs β' a' w' e1 e2 e3 e4; exact ⟨b, hb, hw⟩
  | done r =>
   obtain ⟨e, st'⟩ := r; cases e with
   | normal =>
    intro β' a' w' e1 e2 e3 e4; obtain ⟨b, hb, hw⟩ := hs β' a' w' e1 e2 e3 e4; simp only [bodyAt, sEq] at hb; subst hb; exact hw
   | exit id => exact hs
   | ret => exact hs
 | .seq _ _, [], _, _, _, _, _, _, h => h.elim
 | .cond _ _ _, [], _, _, _, _, _, _, h => h.elim
 | .block _ _, [], _, _, _, _, _, _, h => h.elim
 | .scope _, [], _, _, _, _, _, _, h => h.elim
 | .skip, _, _, _, _, _, _, _, h => h.elim
 | .label _, _, _, _, _, _, _, _, h => h.elim
 | .exit _, _, _, _, _, _, _, _, h => h.elim
 | .ret, _, _, _, _, _, _, _, h => h.elim
 | .region _ _ _, _, _, _, _, _, _, _, h => h.elim
 | .rangeFunc _ _ _ _, _, _, _, _, _, _, _, h => h.elim
 | .goto _, _, _, _, _, _, _, _, h => h.elim
 | .refuse _, _, _, _, _, _, _, _, h => h.elim
end
mutual
def E.sub (σ : Nat -> E) : E -> E
 | .lit n => .lit n
 | .var i => σ i
 | .rd a f i => .rd a f (E.sub σ i)
 | .bin o k a b => .bin o k (E.sub σ a) (E.sub σ b)
 | .app f j l => .app f j (E.subs σ l)
def E.subs (σ : Nat -> E) : List E -> List E
 | [] => []
 | e :: l => E.sub σ e :: E.subs σ l
end
def envSub (ρ : Env) (σ : Nat -> E) : Env := ⟨fun i => (σ i).ev ρ, ρ.arr, ρ.fn⟩
mutual
theorem E.sub_ev (ρ : Env) (σ : Nat -> E) : ∀ e : E, (e.sub σ).ev ρ = e.ev (envSub ρ σ)
 | .lit _ => rfl
 | .var _ => rfl
 | .rd a f i => by simp only [E.sub, E.ev]; rw [E.sub_ev ρ σ i]; rfl
 | .bin o k a b => by simp only [E.sub, E.ev]; rw [E.sub_ev ρ σ a, E.sub_ev ρ σ b]
 | .app f j l => by simp only [E.sub, E.ev]; rw [E.subs_ev ρ σ l]; rfl
theorem E.subs_ev (ρ : Env) (σ : Nat -> E) : ∀ l : List E, E.evs ρ (E.subs σ l) = E.evs (envSub ρ σ) l
 | [] => rfl
 | e :: l => by simp only [E.subs, E.evs]; rw [E.sub_ev ρ σ e, E.subs_ev ρ σ l]
end
mutual
def E.deep (fs : Fs) : E -> E
 | .lit n => .lit n
 | .var i => .var i
 | .rd a f i => .rd a f (canon fs (E.deep fs i))
 | .bin o k a b => .bin o k (E.deep fs a) (E.deep fs b)
 | .app f j l => .app f j (E.deeps fs l)
def E.deeps (fs : Fs) : List E -> List E
 | [] => []
 | e :: l => canon fs (E.deep fs e) :: E.deeps fs l
end
mutual
theorem E.deep_ev {ρ : Env} {fs : Fs} (hf : FsOk ρ fs) : ∀ e : E, (e.deep fs).ev ρ = e.ev ρ
 | .lit _ => rfl
 | .var _ => rfl
 | .rd a f i => by simp only [E.deep, E.ev]; rw [canon_ev hf, E.deep_ev hf i]
 | .bin o k a b => by simp only [E.deep, E.ev]; rw [E.deep_ev hf a, E.deep_ev hf b]
 | .app f j l => by simp only [E.deep, E.ev]; rw [E.deeps_ev hf l]
theorem E.deeps_ev {ρ : Env} {fs : Fs} (hf : FsOk ρ fs) : ∀ l : List E, E.evs ρ (E.deeps fs l) = E.evs ρ l
 | [] => rfl
 | e :: l => by simp only [E.deeps, E.evs]; rw [canon_ev hf, E.deep_ev hf e, E.deeps_ev hf l]
end
mutual
def E.hasArgs : E -> Bool
 | .lit _ => false
 | .var _ => false
 | .rd _ _ _ => true
 | .bin _ _ a b => E.hasArgs a || E.hasArgs b
 | .app _ _ _ => true
end
def eqC1 (fs : Fs) (a b : E) : Bool := a.beq b || (canon fs a).beq (canon fs b) || knownC fs (.bin .eq .i64 a b) == some true
def eqF (fs : Fs) (a b : E) : Bool := eqC1 fs a b || ((a.hasArgs || b.hasArgs) && eqC1 fs (canon fs (a.deep fs)) (canon fs (b.deep fs)))
theorem eqC1_spec {ρ : Env} {fs : Fs} (hf : FsOk ρ fs) {a b : E} (h : eqC1 fs a b = true) : a.ev ρ = b.ev ρ := by
 simp only [eqC1, bOr, beq_iff_eq] at h; rcases h with (h | h) | h
 ·rw [E.beq_eq _ _ h]
 ·rw [<- canon_ev hf a, <- canon_ev hf b, E.beq_eq _ _ h]
 ·have h1 := (knownC_spec hf h).2 rfl
  have h2 : (E.bin .eq .i64 a b).ev ρ = if a.ev ρ = b.ev ρ then 1 else 0 := rfl
  rw [h2] at h1
  by_cases he : a.ev ρ = b.ev ρ
  ·exact he
  ·rw [if_neg he] at h1; exact absurd rfl h1
theorem eqF_spec {ρ : Env} {fs : Fs} (hf : FsOk ρ fs) {a b : E} (h : eqF fs a b = true) : a.ev ρ = b.ev ρ := by
 simp only [eqF, bOr, bAnd] at h; rcases h with h | h
 ·exact eqC1_spec hf h
 ·have := eqC1_spec hf h.2
  rwa [canon_ev hf, canon_ev hf, E.deep_ev hf, E.deep_ev hf] at this
def decideD (fs : Fs) (c : E) : Option Bool :=
 match decideE fs c with
 | some b => some b
 | none => if c.hasArgs then decideE fs (c.deep fs) else none
theorem decideD_spec {ρ : Env} {fs : Fs} (hf : FsOk ρ fs) {e : E} {b : Bool} (h : decideD fs e = some b) : decide (e.ev ρ ≠ 0) = b := by
 unfold decideD at h; split at h
 ·rename_i v hv; obtain rfl := sinj h; exact decideE_spec hf hv
 ·split at h
  ·have := decideE_spec hf h
   rwa [E.deep_ev hf] at this
  ·cases h
def eqFs (fs : Fs) : List E -> List E -> Bool
 | [], [] => true
 | a :: l, b :: m => eqF fs a b && eqFs fs l m
 | _, _ => false
theorem eqFs_spec {ρ : Env} {fs : Fs} (hf : FsOk ρ fs) : ∀ {l m : List E}, eqFs fs l m = true -> E.evs ρ l = E.evs ρ m
 | [], [], _ => rfl
 | [], _ :: _, h => by cases h
 | _ :: _, [], h => by cases h
 | a :: l, b :: m, h => by
  simp only [eqFs, bAnd] at h; simp only [E.evs, eqF_spec hf h.1, eqFs_spec hf h.2]
def rawEq : Value -> Value -> Bool
 | .pointer none, .pointer none => true
 | .slice none a b, .slice none c d => a == c && b == d
 | .map none, .map none => true
 | .nilFunc, .nilFunc => true
 | .nilIface, .nilIface => true
 | .agg a, .agg b => a.size == 0 && b.size == 0
 | _, _ => false
theorem rawEq_spec {a b : Value} (h : rawEq a b = true) : a = b := by
 unfold rawEq at h; split at h <;> first | rfl | (simp at h; done) | skip
 ·simp only [bAnd, beq_iff_eq] at h; rw [h.1, h.2]
 ·rename_i x y
  simp only [bAnd, beq_iff_eq] at h; rw [Array.eq_empty_of_size_eq_zero h.1, Array.eq_empty_of_size_eq_zero h.2]
def sameB : Option Bool -> Option Bool -> Bool
 | some a, some b => a == b
 | _, _ => false
theorem sameB_spec {ρ : Env} {fs : Fs} (hf : FsOk ρ fs) {a b : E} (h : sameB (decideD fs a) (decideD fs b) = true) : decide (a.ev ρ ≠ 0) = decide (b.ev ρ ≠ 0) := by
 unfold sameB at h; split at h
 ·rename_i u v hu hv
  rw [decideD_spec hf hu, decideD_spec hf hv]
  simpa using h
 ·cases h
mutual
def SV.fit (fs : Fs) (σ : Nat -> E) (π : Nat -> Nat) (n : Nat) : SV -> SV -> Bool
 | .int k e, .int j x => kTag k == kTag j && eqF fs (e.sub σ) x
 | .bool e, .bool x => eqF fs (e.sub σ) x || sameB (decideD fs (e.sub σ)) (decideD fs x)
 | .ptr b o, .ptr c u => π b == c && o == u && decide (b < n)
 | .slice b o l p, .slice c u m q => π b == c && o == u && l == m && p == q && decide (b < n)
 | .map b, .map c => π b == c && decide (b < n)
 | .str l, .str m => eqFs fs (E.subs σ l) m
 | .raw v, .raw x => rawEq v x
 | .agg l, .agg m => SV.fitL fs σ π n l m
 | .tuple l, .tuple m => SV.fitL fs σ π n l m
 | .func f x y, .func g u v => f == g && SV.fitL fs σ π n x u && SV.fitL fs σ π n y v
 | .inp k z o a b c, .inp j y u d e f => π k == j && z == y && o == u && decide (k < n) && eqF fs (a.sub σ) d && eqF fs (b.sub σ) e && eqF fs (c.sub σ) f
 | _, _ => false
def SV.fitL (fs : Fs) (σ : Nat -> E) (π : Nat -> Nat) (n : Nat) : List SV -> List SV -> Bool
 | [], [] => true
 | s :: l, t :: m => SV.fit fs σ π n s t && SV.fitL fs σ π n l m
 | _, _ => false
end
section
variable {ρ : Env} {β : Bm} {fs : Fs} {σ : Nat -> E} {π : Nat -> Nat} {n m : Nat}
mutual
theorem SV.fit_spec (hf : FsOk ρ fs) : ∀ (s t : SV), s.fit fs σ π n t = true -> t.ev ρ β = s.ev (envSub ρ σ) (fun k => β (π k)) /\ (t.ok ρ m -> s.ok (envSub ρ σ) n)
 | .int k e, t, h => by
  cases t <;> simp [SV.fit] at h
  obtain ⟨h1, h2⟩ := h; obtain rfl := kTag_inj h1; have := eqF_spec hf h2; rw [E.sub_ev] at this; exact ⟨by simp only [SV.ev, this], fun h => by simp only [SV.ok] at *; rw [this]; exact h⟩
 | .bool e, t, h => by
  cases t <;> simp [SV.fit] at h
  rename_i x
  have key : decide ((e.sub σ).ev ρ ≠ 0) = decide (x.ev ρ ≠ 0) := by
   rcases h with h | h
   ·rw [eqF_spec hf h]
   ·exact sameB_spec hf h
  rw [E.sub_ev] at key; exact ⟨by simp only [SV.ev, key], fun _ => trivial⟩
 | .ptr b o, t, h => by
  cases t <;> simp [SV.fit] at h
  obtain ⟨⟨rfl, rfl⟩, h⟩ := h; exact ⟨rfl, fun _ => h⟩
 | .slice b o l c, t, h => by
  cases t <;> simp [SV.fit] at h
  obtain ⟨⟨⟨⟨rfl, rfl⟩, rfl⟩, rfl⟩, h⟩ := h; exact ⟨rfl, fun _ => h⟩
 | .map b, t, h => by
  cases t <;> simp [SV.fit] at h
  obtain ⟨rfl, h⟩ := h; exact ⟨rfl, fun _ => h⟩
 | .str l, t, h => by
  cases t <;> simp [SV.fit] at h
  have := eqFs_spec hf h; rw [E.subs_ev] at this; exact ⟨by simp only [SV.ev, this], fun h => by simp only [SV.ok] at *; rw [this]; exact h⟩
 | .raw v, t, h => by
  cases t <;> simp [SV.fit] at h
  rw [rawEq_spec h]; exact ⟨rfl, fun _ => trivial⟩
 | .agg l, t, h => by
  cases t <;> simp [SV.fit] at h
  obtain ⟨h1, h2⟩ := SV.fitL_spec hf l _ h; exact ⟨by simp only [SV.ev, h1], h2⟩
 | .tuple l, t, h => by
  cases t <;> simp [SV.fit] at h
  obtain ⟨h1, h2⟩ := SV.fitL_spec hf l _ h; exact ⟨by simp only [SV.ev, h1], h2⟩
 | .func f x y, t, h => by
  cases t <;> simp [SV.fit] at h
  obtain ⟨⟨rfl, h1⟩, h2⟩ := h; obtain ⟨a1, a2⟩ := SV.fitL_spec hf x _ h1; obtain ⟨b1, b2⟩ := SV.fitL_spec hf y _ h2; exact ⟨by simp only [SV.ev, a1, b1], fun h => ⟨a2 h.1, b2 h.2⟩⟩
 | .inp k z o a b c, t, h => by
  cases t <;> simp [SV.fit] at h
  obtain ⟨⟨⟨⟨⟨⟨rfl, rfl⟩, rfl⟩, hk⟩, h1⟩, h2⟩, h3⟩ := h; have e1 := eqF_spec hf h1; have e2 := eqF_spec hf h2; have e3 := eqF_spec hf h3; rw [E.sub_ev] at e1 e2 e3; exact ⟨by simp only [SV.ev, e2, e3], fun h => by simp only [SV.ok] at *; rw [e1, e2, e3]; exact ⟨hk, h.2⟩⟩
 | .iptr _ _ _ _ _, t, h => by cases t <;> simp [SV.fit] at h
theorem SV.fitL_spec (hf : FsOk ρ fs) : ∀ (l t : List SV), SV.fitL fs σ π n l t = true -> SV.evs ρ β t = SV.evs (envSub ρ σ) (fun k => β (π k)) l /\ (SV.oks ρ m t -> SV.oks (envSub ρ σ) n l)
 | [], t, h => by
  cases t <;> simp [SV.fitL] at h
  exact ⟨rfl, fun _ => trivial⟩
 | s :: l, t, h => by
  cases t <;> simp [SV.fitL] at h
  obtain ⟨a1, a2⟩ := SV.fit_spec hf s _ h.1; obtain ⟨b1, b2⟩ := SV.fitL_spec hf l _ h.2; exact ⟨by simp only [SV.evs, a1, b1], fun h => ⟨a2 h.1, b2 h.2⟩⟩
end
end
def lkEq : Lk -> Lk -> Bool
 | .int k, .int j => kTag k == kTag j
 | .bool, .bool => true
 | _, _ => false
def lksEq : List Lk -> List Lk -> Bool
 | [], [] => true
 | a :: l, b :: m => lkEq a b && lksEq l m
 | _, _ => false
theorem lkEq_spec {a b : Lk} (h : lkEq a b = true) : a = b := by
 cases a <;> cases b <;> simp [lkEq] at h
 ·rw [kTag_inj h]
 ·rfl
theorem lksEq_spec : ∀ {l m : List Lk}, lksEq l m = true -> l = m
 | [], [], _ => rfl
 | [], _ :: _, h => by cases h
 | _ :: _, [], h => by cases h
 | a :: l, b :: m, h => by
  simp only [lksEq, bAnd] at h; rw [lkEq_spec h.1, lksEq_spec h.2]
def fitEnts (fs : Fs) (σ : Nat -> E) (π : Nat -> Nat) (n : Nat) : List (SV × SV × Nat) -> List (SV × SV × Nat) -> Bool
 | [], [] => true
 | (a, b, c) :: l, (d, e, f) :: m => SV.fit fs σ π n a d && SV.fit fs σ π n b e && c == f && fitEnts fs σ π n l m
 | _, _ => false
def Bx.fit (fs : Fs) (σ : Nat -> E) (π : Nat -> Nat) (n : Nat) : Bx -> Bx -> Bool
 | .gone, _ => true
 | .cells c ty t, .cells d tz u => SV.fitL fs σ π n c d && ty == tz && t == u
 | .map es c, .map fs' d => fitEnts fs σ π n es fs' && c == d
 | .ro c m, .ro d k => SV.fitL fs σ π n c d && m == k
 | .arr a ks l, .arr b js m => a == b && lksEq ks js && eqF fs (l.sub σ) m
 | .obj q l, .obj r m => q == r && eqFs fs (E.subs σ l) m
 | _, _ => false
section
variable {ρ : Env} {β : Bm} {fs : Fs} {σ : Nat -> E} {π : Nat -> Nat} {n m : Nat} {w : World}
theorem fitEnts_spec (hf : FsOk ρ fs) : ∀ (l t : List (SV × SV × Nat)), fitEnts fs σ π n l t = true -> t.map (entOf ρ β) = l.map (entOf (envSub ρ σ) (fun k => β (π k))) /\ ((∀ e ∈ t, e.1.ok ρ m /\ e.2.1.ok ρ m) -> ∀ e ∈ l, e.1.ok (envSub ρ σ) n /\ e.2.1.ok (envSub ρ σ) n)
 | [], [], _ => ⟨rfl, fun _ _ h => by cases h⟩
 | [], _ :: _, h => by cases h
 | _ :: _, [], h => by cases h
 | (a, b, c) :: l, (d, e, f) :: t, h => by
  simp only [fitEnts, bAnd, beq_iff_eq] at h; obtain ⟨⟨⟨h1, h2⟩, rfl⟩, h4⟩ := h; obtain ⟨a1, a2⟩ := SV.fit_spec (β := β) (m := m) hf _ _ h1; obtain ⟨b1, b2⟩ := SV.fit_spec (β := β) (m := m) hf _ _ h2; obtain ⟨c1, c2⟩ := fitEnts_spec hf _ _ h4; refine ⟨by simp only [List.map_cons, c1, entOf, a1, b1], fun hk x hx => ?_⟩
  rcases mCo.1 hx with rfl | hx
  ·have := hk (d, e, c) (lHd ..)
   exact ⟨a2 this.1, b2 this.2⟩
  ·exact c2 (fun y hy => hk y (lTl _ hy)) x hx
theorem Bx.fit_spec (hf : FsOk ρ fs) {b c : Bx} (h : b.fit fs σ π n c = true) : (∀ bv, c.lies ρ β bv w -> b.lies (envSub ρ σ) (fun k => β (π k)) bv w) /\ (c.ok ρ m -> b.ok (envSub ρ σ) n) /\ (b.live = true -> c.live = true) /\ (b.isArr = true -> c.isArr = true) := by
 unfold Bx.fit at h; split at h
 ·exact ⟨fun _ _ => trivial, fun _ => trivial, fun h => (by cases h), fun h => (by cases h)⟩
 ·rename_i c ty t d tz u
  simp only [bAnd, beq_iff_eq] at h; obtain ⟨⟨h1, rfl⟩, rfl⟩ := h; obtain ⟨a1, a2⟩ := SV.fitL_spec (β := β) (m := m) hf _ _ h1
  have hlen : d.length = c.length := by
   have := congrArg List.length a1
   simpa [SV.evs_map] using this
  refine ⟨fun bv hl => ?_, a2, fun _ => rfl, fun h => by cases h⟩
  cases t with
  | zero => simp only [Bx.lies] at *; rw [<- a1]; exact hl
  | succ s => simp only [Bx.lies] at *; rw [<- a1, <- hlen]; exact hl
 ·rename_i es c es' d
  simp only [bAnd, beq_iff_eq] at h; obtain ⟨h1, rfl⟩ := h; obtain ⟨a1, a2⟩ := fitEnts_spec (β := β) (m := m) hf _ _ h1; exact ⟨fun bv hl => by simp only [Bx.lies] at *; rw [<- a1]; exact hl, a2, fun _ => rfl, fun h => by cases h⟩
 ·rename_i c m1 d m2
  simp only [bAnd, beq_iff_eq] at h; obtain ⟨h, rfl⟩ := h; obtain ⟨a1, a2⟩ := SV.fitL_spec (β := β) (m := m) hf _ _ h
  have hlen : d.length = c.length := by
   have := congrArg List.length a1
   simpa [SV.evs_map] using this
  have hem : d.isEmpty = c.isEmpty := by cases d <;> cases c <;> first | rfl | simp at hlen
  refine ⟨fun bv hl => by simp only [Bx.lies] at *; rw [<- a1, <- hem]; exact hl, a2, fun hv => ?_, fun h => by cases h⟩
  cases d with
  | nil => cases c with
   | nil => exact hv
   | cons _ _ => simp at hlen
  | cons _ _ => rfl
 ·rename_i a ks l b js q
  simp only [bAnd, beq_iff_eq] at h; obtain ⟨⟨rfl, h2⟩, h3⟩ := h; obtain rfl := lksEq_spec h2; have e := eqF_spec hf h3; rw [E.sub_ev] at e; refine ⟨fun bv hl => ?_, fun _ => trivial, fun h => h, fun h => h⟩
  simp only [Bx.lies] at *; rw [e]; exact hl
 ·exact ⟨fun _ _ => trivial, fun _ => trivial, fun h => (by cases h), fun h => (by cases h)⟩
 ·cases h
theorem Bx.fit_obj (hf : FsOk ρ fs) {q : Nat} {es : List E} {c : Bx} (h : (Bx.obj q es).fit fs σ π n c = true) : ∃ es', c = .obj q es' /\ E.evs ρ es' = E.evs (envSub ρ σ) es := by
 cases c <;> simp only [Bx.fit, bAnd, beq_iff_eq] at h <;> try cases h
 rename_i r m h1 h2; subst h1; have := eqFs_spec hf h2; rw [E.subs_ev] at this; exact ⟨m, rfl, this.symm⟩
end
structure Tm where
 sz : Nat
 live : List (Nat × SV)
 boxes : List Box
 facts : Fs
def lookT : List (Nat × SV) -> Nat -> Option SV
 | [], _ => none
 | (j, s) :: l, i => bif Nat.beq i j then some s else lookT l i
def Tm.hp (τ : Tm) : Hp := ⟨τ.boxes.length, fun k => τ.boxes.getD k ⟨false, .gone⟩⟩
def rngE (k : IntKind) : E -> Fs
 | .var i => [(.bin .zrng k (.var i) (.lit 0), true)]
 | _ => []
mutual
def SV.rngs : SV -> Fs
 | .int k e => rngE k e
 | .agg l => SV.rngsL l
 | .tuple l => SV.rngsL l
 | _ => []
def SV.rngsL : List SV -> Fs
 | [] => []
 | s :: l => SV.rngs s ++ SV.rngsL l
end
def Bx.rngs : Bx -> Fs
 | .cells c _ _ => SV.rngsL c
 | .ro c _ => SV.rngsL c
 | _ => []
def liveRngs : List (Nat × SV) -> Fs
 | [] => []
 | p :: l => p.2.rngs ++ liveRngs l
def boxRngs : List Box -> Fs
 | [] => []
 | b :: l => b.c.rngs ++ boxRngs l
def Tm.st (τ : Tm) (g : Nat -> Value) : St := ⟨τ.sz, fun i => (lookT τ.live i).getD (.raw (g i)), τ.hp, τ.facts ++ (liveRngs τ.live ++ boxRngs τ.boxes)⟩
abbrev Sol := List (Nat × Option E × E)
def solveE : E -> E -> Sol
 | .var i, e => [(i, none, e)]
 | .bin .zadd _ a (.bin .zmul _ (.lit (-1)) (.var i)), e => [(i, some a, e)]
 | _, _ => []
def solveEs : List E -> List E -> Sol
 | a :: l, b :: m => solveE a b ++ solveEs l m
 | _, _ => []
mutual
def SV.solve : SV -> SV -> Sol
 | .int _ a, .int _ e => solveE a e
 | .bool (.var i), .bool e => [(i, none, e)]
 | .agg l, .agg m => SV.solveL l m
 | .tuple l, .tuple m => SV.solveL l m
 | _, _ => []
def SV.solveL : List SV -> List SV -> Sol
 | s :: l, t :: m => SV.solve s t ++ SV.solveL l m
 | _, _ => []
end
def Bx.solve : Bx -> Bx -> Sol
 | .cells c _ _, .cells d _ _ => SV.solveL c d
 | .ro c _, .ro d _ => SV.solveL c d
 | .obj _ l, .obj _ m => solveEs l m
 | _, _ => []
def solveT (st : St) : List (Nat × SV) -> Sol
 | [] => []
 | (i, s) :: l => SV.solve s (st.tmps i) ++ solveT st l
def solveB (π : Nat -> Nat) (st : St) : List Box -> Nat -> Sol
 | [], _ => []
 | b :: l, j => Bx.solve b.c (st.hp.box (π j)).c ++ solveB π st l (j + 1)
abbrev Rn := List (Nat × Nat)
def rnOf : Rn -> Nat -> Nat
 | [], i => i
 | (j, k) :: l, i => bif Nat.beq i j then k else rnOf l i
mutual
def SV.ren : SV -> SV -> Rn
 | .ptr b _, .ptr c _ => [(b, c)]
 | .slice b _ _ _, .slice c _ _ _ => [(b, c)]
 | .map b, .map c => [(b, c)]
 | .inp b _ _ _ _ _, .inp c _ _ _ _ _ => [(b, c)]
 | .agg l, .agg m => SV.renL l m
 | .tuple l, .tuple m => SV.renL l m
 | .func _ x y, .func _ u v => SV.renL x u ++ SV.renL y v
 | _, _ => []
def SV.renL : List SV -> List SV -> Rn
 | s :: l, t :: m => SV.ren s t ++ SV.renL l m
 | _, _ => []
end
def entsRen : List (SV × SV × Nat) -> List (SV × SV × Nat) -> Rn
 | (_, s, _) :: l, (_, t, _) :: m => SV.ren s t ++ entsRen l m
 | _, _ => []
def Bx.ren : Bx -> Bx -> Rn
 | .cells c _ _, .cells d _ _ => SV.renL c d
 | .ro c _, .ro d _ => SV.renL c d
 | .map es _, .map fs _ => entsRen es fs
 | _, _ => []
def renT (st : St) : List (Nat × SV) -> Rn
 | [] => []
 | (i, s) :: l => SV.ren s (st.tmps i) ++ renT st l
def renB (st : St) : List Box -> Nat -> Rn -> Rn
 | [], _, r => r
 | b :: l, j, r => renB st l (j + 1) (r ++ Bx.ren b.c (st.hp.box (rnOf r j)).c)
def Tm.ren (τ : Tm) (st : St) : Nat -> Nat := rnOf (renB st τ.boxes 0 (renT st τ.live))
def oneOne (π : Nat -> Nat) (n : Nat) : Bool := (List.range n).all fun j => (List.range j).all fun k => !Nat.beq (π j) (π k)
def look0 : Sol -> Nat -> E
 | [], i => .var i
 | (j, none, e) :: l, i => bif Nat.beq i j then e else look0 l i
 | (_, some _, _) :: l, i => look0 l i
def lookE (s : Sol) : Sol -> Nat -> E
 | [], i => .var i
 | (j, none, e) :: l, i => bif Nat.beq i j then e else lookE s l i
 | (j, some a, e) :: l, i => bif Nat.beq i j then .bin .zadd .i64 (a.sub (look0 s)) (.bin .zmul .i64 (.lit (-1)) e) else lookE s l i
def Tm.solve (τ : Tm) (st : St) : Nat -> E := let s := solveT st τ.live ++ solveB (τ.ren st) st τ.boxes 0; lookE s s
def fitT (fs : Fs) (σ : Nat -> E) (π : Nat -> Nat) (n : Nat) (st : St) : List (Nat × SV) -> Bool
 | [] => true
 | (i, s) :: l => decide (i < st.sz) && SV.fit fs σ π n s (st.tmps i) && fitT fs σ π n st l
def fitB (fs : Fs) (σ : Nat -> E) (π : Nat -> Nat) (n : Nat) (st : St) : List Box -> Nat -> Bool
 | [], _ => true
 | b :: l, j => decide (π j < st.hp.n) && (!b.rw || (st.hp.box (π j)).rw) && Bx.fit fs σ π n b.c (st.hp.box (π j)).c && fitB fs σ π n st l (j + 1)
def fitF (fs : Fs) (σ : Nat -> E) : Fs -> Bool
 | [] => true
 | (c, b) :: l => decideD fs (c.sub σ) == some b && fitF fs σ l
def Tm.fit (gl : Gl) (τ : Tm) (σ : Nat -> E) (st : St) : Bool :=
 decide (st.sz = τ.sz) && oneOne (τ.ren st) τ.boxes.length && gl.all (fun p => decide (p.2 < τ.boxes.length) && Nat.beq (τ.ren st p.2) p.2) && fitT st.facts σ (τ.ren st) τ.boxes.length st τ.live && fitB st.facts σ (τ.ren st) τ.boxes.length st τ.boxes 0 && fitF st.facts σ τ.facts
section
variable {P : Program} {ρ : Env} {w0 : World} {M : Nat -> Prop} {gl : Gl} {β : Bm} {w : World} {hp : Hp} {fs : Fs} {σ : Nat -> E} {π : Nat -> Nat} {n m : Nat}
theorem getD_lt {α : Type} (l : List α) (d : α) {i : Nat} (h : i < l.length) : l.getD i d = l[i] := by simp [h]
theorem lookT_mem : ∀ {l : List (Nat × SV)} {i : Nat} {s : SV}, lookT l i = some s -> (i, s) ∈ l
 | [], _, _, h => by cases h
 | (j, t) :: l, i, s, h => by
  unfold lookT at h; rw [beq_iff] at h
  by_cases he : i = j
  ·subst he
   simp at h; subst h; exact lHd ..
  ·simp [he] at h
   exact lTl _ (lookT_mem h)
theorem fitT_mem {st : St} : ∀ {l : List (Nat × SV)}, fitT fs σ π n st l = true -> ∀ p ∈ l, p.1 < st.sz /\ SV.fit fs σ π n p.2 (st.tmps p.1) = true
 | [], _, p, hp => by cases hp
 | (i, s) :: l, h, p, hp => by
  simp only [fitT, bAnd, dEq] at h; rcases mCo.1 hp with rfl | hp
  ·exact h.1
  ·exact fitT_mem h.2 p hp
theorem fitB_get {st : St} : ∀ {l : List Box} {j : Nat}, fitB fs σ π n st l j = true -> ∀ (k : Nat) (b : Box), l[k]? = some b -> (b.rw = true -> (st.hp.box (π (j + k))).rw = true) /\ Bx.fit fs σ π n b.c (st.hp.box (π (j + k))).c = true /\ π (j + k) < st.hp.n
 | [], _, _, k, b, hk => by simp at hk
 | b :: l, j, h, k, b', hk => by
  simp only [fitB, bAnd, bOr, Bool.not_eq_true', dEq] at h; cases k with
  | zero =>
   obtain rfl : b = b' := by simpa using hk
   refine ⟨fun hr => ?_, h.1.2, h.1.1.1⟩
   rcases h.1.1.2 with h1 | h1
   ·rw [h1] at hr; cases hr
   ·exact h1
  | succ k =>
   have := fitB_get h.2 k b' (by simpa using hk)
   rw [show j + 1 + k = j + (k + 1) by omega] at this
   exact this
theorem fitF_ok (hf : FsOk ρ fs) : ∀ {l : Fs}, fitF fs σ l = true -> FsOk (envSub ρ σ) l
 | [], _ => fun p hp => by cases hp
 | (c, b) :: l, h => by
  simp only [fitF, bAnd, beq_iff_eq] at h; intro p hp; rcases mCo.1 hp with rfl | hp
  ·have := decideD_spec hf h.1
   rw [E.sub_ev] at this; show c.ev (envSub ρ σ) ≠ 0 ↔ b = true; rw [<- this]; simp
  ·exact fitF_ok hf h.2 p hp
theorem rngE_ok {k : IntKind} {e : E} (h : (Lit.int k (e.ev ρ)).wf = true) : FsOk ρ (rngE k e) := by
 intro p hp; unfold rngE at hp; split at hp
 ·rename_i i
  obtain rfl : p = _ := List.mem_singleton.1 hp; have := (wf_iff k _).1 h; show (if k.min <= ρ.v i /\ ρ.v i <= k.max then (1 : Int) else 0) ≠ 0 ↔ true = true
  simp only [E.ev] at this; rw [if_pos this]; simp
 ·cases hp
mutual
theorem SV.rngs_ok : ∀ {s : SV}, s.ok ρ n -> FsOk ρ s.rngs
 | .int k e, h => by simp only [SV.rngs]; exact rngE_ok h
 | .agg l, h => by simp only [SV.rngs]; exact SV.rngsL_ok h
 | .tuple l, h => by simp only [SV.rngs]; exact SV.rngsL_ok h
 | .bool _, _ => fun p hp => by simp [SV.rngs] at hp
 | .ptr _ _, _ => fun p hp => by simp [SV.rngs] at hp
 | .slice _ _ _ _, _ => fun p hp => by simp [SV.rngs] at hp
 | .map _, _ => fun p hp => by simp [SV.rngs] at hp
 | .str _, _ => fun p hp => by simp [SV.rngs] at hp
 | .raw _, _ => fun p hp => by simp [SV.rngs] at hp
 | .func _ _ _, _ => fun p hp => by simp [SV.rngs] at hp
 | .inp _ _ _ _ _ _, _ => fun p hp => by simp [SV.rngs] at hp
 | .iptr _ _ _ _ _, _ => fun p hp => by simp [SV.rngs] at hp
theorem SV.rngsL_ok : ∀ {l : List SV}, SV.oks ρ n l -> FsOk ρ (SV.rngsL l)
 | [], _ => fun p hp => by simp [SV.rngsL] at hp
 | s :: l, h => by simp only [SV.rngsL]; exact fsOk_app (SV.rngs_ok h.1) (SV.rngsL_ok h.2)
end
theorem Bx.rngs_ok {b : Bx} (h : b.ok ρ n) : FsOk ρ b.rngs := by
 cases b with
 | cells c ty t => exact SV.rngsL_ok h
 | ro c _ => exact SV.rngsL_ok h
 | map _ _ => exact fun p hp => by cases hp
 | arr _ _ _ => exact fun p hp => by cases hp
 | gone => exact fun p hp => by cases hp
 | obj _ _ => exact fun p hp => by cases hp
 | view _ _ => exact fun p hp => by cases hp
theorem liveRngs_ok : ∀ {l : List (Nat × SV)}, (∀ p ∈ l, p.2.ok ρ n) -> FsOk ρ (liveRngs l)
 | [], _ => fun p hp => by cases hp
 | p :: l, h => fsOk_app (SV.rngs_ok (h p (lHd ..))) (liveRngs_ok fun q hq => h q (lTl _ hq))
theorem boxRngs_ok : ∀ {l : List Box}, (∀ b ∈ l, b.c.ok ρ n) -> FsOk ρ (boxRngs l)
 | [], _ => fun p hp => by cases hp
 | b :: l, h => fsOk_app (Bx.rngs_ok (h b (lHd ..))) (boxRngs_ok fun q hq => h q (lTl _ hq))
def junkOf (ρ : Env) (β : Bm) (st : St) : Nat -> Value := fun i => (st.tmps i).ev ρ β
theorem oneOne_spec {n : Nat} (h : oneOne π n = true) {j k : Nat} (hj : j < n) (hk : k < n) (he : π j = π k) : j = k := by
 have key : ∀ a b, a < n -> b < a -> π a ≠ π b := fun a b ha hb e => by
  have h1 := lAl.1 h a (mRa.2 ha); have h2 := lAl.1 h1 b (mRa.2 hb); rw [e] at h2; simp at h2
 rcases Nat.lt_trichotomy j k with h1 | h1 | h1
 ·exact absurd he.symm (key k j hk h1)
 ·exact h1
 ·exact absurd he (key j k hj h1)
theorem Tm.fit_run {τ : Tm} {st : St} {a : Act} (hst : Conc ρ w0 M gl β st a w) (h : τ.fit gl σ st = true) : Conc (envSub ρ σ) w0 M gl (fun k => β (τ.ren st k)) (τ.st (junkOf ρ β st)) a w := by
 simp only [Tm.fit, bAnd, dEq] at h; obtain ⟨⟨⟨⟨⟨h1, h2⟩, h3⟩, h4⟩, h5⟩, h6⟩ := h; have hinj : ∀ j k, j < τ.boxes.length -> k < τ.boxes.length -> τ.ren st j = τ.ren st k -> j = k := fun j k hj hk he => oneOne_spec h2 hj hk he
 have hT := fitT_mem h4; have hB := fitB_get h5
 have box : ∀ (k : Nat) (b : Box), τ.hp.at k = some b -> st.hp.at (τ.ren st k) = some (st.hp.box (τ.ren st k)) /\ (b.rw = true -> (st.hp.box (τ.ren st k)).rw = true) /\ Bx.fit st.facts σ (τ.ren st) τ.boxes.length b.c (st.hp.box (τ.ren st k)).c = true := fun k b hk => by
  obtain ⟨hlt, hb⟩ := Hp.at_some.1 hk; have hlt' : k < τ.boxes.length := hlt
  have hb' : τ.boxes[k]? = some b := by
   have : τ.boxes.getD k ⟨false, .gone⟩ = b := hb; rw [lGe hlt']; rw [getD_lt _ _ hlt'] at this; rw [this]
  have := hB k b hb'; rw [Nat.zero_add] at this; exact ⟨Hp.at_some.2 ⟨this.2.2, rfl⟩, this.1, this.2.1⟩
 have good : ∀ i, i < τ.sz -> ((τ.st (junkOf ρ β st)).tmps i).ev (envSub ρ σ) (fun k => β (τ.ren st k)) = (st.tmps i).ev ρ β /\ ((τ.st (junkOf ρ β st)).tmps i).ok (envSub ρ σ) τ.boxes.length := fun i hi => by
  simp only [Tm.st]; cases hl : lookT τ.live i with
  | none => exact ⟨rfl, trivial⟩
  | some s =>
   have hm := hT _ (lookT_mem hl); obtain ⟨a1, a2⟩ := SV.fit_spec (β := β) (m := st.hp.n) hst.facts _ _ hm.2; exact ⟨a1.symm, a2 (hst.good i hm.1)⟩
 have hgood : ∀ (k : Nat) (b : Box), τ.hp.at k = some b -> b.c.ok (envSub ρ σ) τ.hp.n := fun k b hk => by
  obtain ⟨b1, b2, b3⟩ := box k b hk; exact (Bx.fit_spec (β := β) (w := w) hst.facts b3).2.1 (hst.heap.good _ _ b1)
 refine ⟨hst.size.trans h1, fun i hi => ?_, hst.defers, fun i hi => (good i hi).2, ⟨fun k b hk => ?_, fun j k b b' hj hk hb hb' e => ?_, fun k b hk hr hl => ?_, hgood, hst.heap.kept, fun k b hk ha => ?_, hst.heap.objs.elim fun φ ho => ⟨fun k => φ (τ.ren st k), fun k b q es hk e => ?_, fun k b hk hb i hi => ?_, fun j k b b' hj hk hb hjk i hi => ?_⟩⟩, ?_, fun p hp => ?_⟩
 ·rw [hst.tmps i (by rw [h1]; exact hi), (good i hi).1]
 ·obtain ⟨b1, b2, b3⟩ := box k b hk
  exact (Bx.fit_spec (m := st.hp.n) hst.facts b3).1 _ (hst.heap.lies _ _ b1)
 ·obtain ⟨b1, b2, b3⟩ := box j b hj
  obtain ⟨c1, c2, c3⟩ := box k b' hk; exact hinj j k (Hp.at_lt hj) (Hp.at_lt hk) (hst.heap.inj _ _ _ _ b1 c1 ((Bx.fit_spec (β := β) (w := w) (m := st.hp.n) hst.facts b3).2.2.1 hb) ((Bx.fit_spec (β := β) (w := w) (m := st.hp.n) hst.facts c3).2.2.1 hb') e)
 ·obtain ⟨b1, b2, b3⟩ := box k b hk
  exact hst.heap.mine _ _ b1 (b2 hr) ((Bx.fit_spec (β := β) (w := w) (m := st.hp.n) hst.facts b3).2.2.1 hl)
 ·obtain ⟨b1, b2, b3⟩ := box k b hk
  exact hst.heap.arrs _ _ b1 ((Bx.fit_spec (β := β) (w := w) (m := st.hp.n) hst.facts b3).2.2.2 ha)
 ·obtain ⟨b1, b2, b3⟩ := box k b hk
  rw [e] at b3; obtain ⟨es', c1, c2⟩ := Bx.fit_obj hst.facts b3; rw [<- c2]; exact ho.has _ _ q es' b1 c1
 ·obtain ⟨b1, b2, b3⟩ := box k b hk
  obtain ⟨q, es, e⟩ := Bx.obj_of hb; rw [e] at b3; obtain ⟨es', c1, c2⟩ := Bx.fit_obj hst.facts b3; exact ho.own _ _ b1 (by rw [c1]; rfl) i hi
 ·obtain ⟨b1, b2, b3⟩ := box j b hj
  obtain ⟨d1, d2, d3⟩ := box k b' hk; obtain ⟨q, es, e⟩ := Bx.obj_of hb; rw [e] at b3; obtain ⟨es', c1, c2⟩ := Bx.fit_obj hst.facts b3; have := ho.apart _ _ _ _ b1 d1 (by rw [c1]; rfl) (fun he => hjk (hinj j k (Hp.at_lt hj) (Hp.at_lt hk) he)) i hi
  refine ⟨fun hv => this.1 ((Bx.fit_spec (β := β) (w := w) (m := st.hp.n) hst.facts d3).2.2.1 hv), fun hv => ?_⟩
  obtain ⟨q', es2, e'⟩ := Bx.obj_of hv; rw [e'] at d3; obtain ⟨es3, f1, f2⟩ := Bx.fit_obj hst.facts d3; exact this.2 (by rw [f1]; rfl)
 ·refine fsOk_app (fitF_ok hst.facts h6) (fsOk_app (liveRngs_ok (n := τ.boxes.length) fun p hp => ?_) (boxRngs_ok (n := τ.boxes.length) fun b hb => ?_))
  ·have hm := hT p hp
   exact (SV.fit_spec (β := β) (m := st.hp.n) hst.facts _ _ hm.2).2 (hst.good _ hm.1)
  ·obtain ⟨k, hk, rfl⟩ := List.getElem_of_mem hb
   exact hgood k _ (Hp.at_some.2 ⟨hk, getD_lt _ _ hk⟩)
 ·have := lAl.1 h3 p hp
  simp only [bAnd, dEq] at this; have e : τ.ren st p.2 = p.2 := Nat.eq_of_beq_eq_true this.2; exact ⟨by show (β (τ.ren st p.2)).1 = p.1; rw [e]; exact (hst.gl p hp).1, this.1⟩
end
def ruledOut (fs : Fs) (e : E) : Nat -> Int -> Bool
 | 0, _ => true
 | k + 1, n => (known0 fs (.bin .eq .i64 e (.lit n)) == some false) && ruledOut fs e k (n + 1)
def emptyE (fs : Fs) (e : E) : Bool :=
 match (bndOf e fs).lo, (bndOf e fs).hi with
 | some a, some b => decide (b - a < 6) && ruledOut fs e (b - a + 1).toNat a
 | _, _ => false
def absurdB (fs : Fs) : Fs -> Bool
 | [] => false
 | (c, _) :: l => (match c with
  | .bin .lt _ x (.lit _) => emptyE fs x
  | .bin .lt _ (.lit _) x => emptyE fs x
  | _ => false) || absurdB fs l
def noWay (fs : Fs) : Bool := absurdF fs fs || absurdB fs fs
section
variable {ρ : Env} {fs : Fs}
theorem ruledOut_spec (hf : FsOk ρ fs) {e : E} : ∀ {k : Nat} {n : Int}, ruledOut fs e k n = true -> ∀ i, n <= i -> i < n + k -> e.ev ρ ≠ i
 | 0, n, _, i, h1, h2 => by simp at h2; omega
 | k + 1, n, h, i, h1, h2 => by
  simp only [ruledOut, bAnd, beq_iff_eq] at h
  by_cases hi : i = n
  ·subst hi
   have h3 := known0_spec hf h.1; intro he; have h4 : (E.bin .eq .i64 e (.lit i)).ev ρ ≠ 0 := by simp [E.ev, BOp.ev, he]
   have := h3.1 h4; cases this
  ·exact ruledOut_spec hf h.2 i (by omega) (by push_cast at h2 ⊢; omega)
theorem emptyE_spec (hf : FsOk ρ fs) {e : E} (h : emptyE fs e = true) : False := by
 unfold emptyE at h; split at h
 ·rename_i a b ha hb
  simp only [bAnd, dEq] at h; have hx := bndOf_has (ρ := ρ) (e := e) hf; have h1 := hx.1 a ha; have h2 := hx.2 b hb; exact ruledOut_spec hf h.2 (e.ev ρ) h1 (by omega) rfl
 ·cases h
theorem absurdB_spec (hf : FsOk ρ fs) : ∀ {l : Fs}, absurdB fs l = true -> False
 | [], h => by cases h
 | (c, b) :: l, h => by
  simp only [absurdB, bOr] at h; rcases h with h | h
  ·split at h
   ·exact emptyE_spec hf h
   ·exact emptyE_spec hf h
   ·cases h
  ·exact absurdB_spec hf h
theorem noWay_spec (hf : FsOk ρ fs) (h : noWay fs = true) : False := by
 simp only [noWay, bOr] at h; rcases h with h | h
 ·exact absurdF_spec hf hf h
 ·exact absurdB_spec hf h
end
structure Cut where
 p : Path
 rank : Nat
 ts : List Tm
 mea : E
def Tm.stP (τ : Tm) (g : Nat -> Value) (p : Fs) : St := { τ.st g with facts := p ++ (τ.st g).facts }
inductive Lf where
 | back (st : St) | fwd (s : Sp)
def roundT (P : Program) (gl : Gl) (call : Caller) (keep : Nat -> List Nat) (fuel : Nat) (C : Code) (p : Path) (b : Code) (st : St) : T Lf :=
 (execP P gl call keep fuel b st).bind fun s => match s with
  | .done r => match r.x with
   | .normal => .ok (.back r.st)
   | _ => (resumeP P gl call keep fuel C p r).map .fwd
  | .loop _ _ => .bad 161
section
variable {P : Program} {ρ : Env} {w0 : World} {M : Nat -> Prop} {gl : Gl} {call : Caller} {keep : Nat -> List Nat} {fuel : Nat} {cuts : List Cut} {endOk : Rs -> Bool} {C : Code} {Q : Exit -> Act -> World -> Prop}
def SameEnv (ρ ρ' : Env) : Prop := ρ'.fn = ρ.fn /\ ρ'.arr = ρ.arr
theorem SameEnv.sub {ρ ρ' : Env} (h : SameEnv ρ ρ') (σ : Nat -> E) : SameEnv ρ (envSub ρ' σ) := h
end
def lawEnd (P : Program) (fn : Func) (r : Rs) : Bool :=
 match r.x with
 | .exit _ => false
 | _ => match resultsS P r.st fn.results.toList with
  | some vs => isTrueF ⟨packS vs, r.st.hp, r.st.facts⟩ || absurdB r.st.facts r.st.facts
  | none => false
def entrySt (fn : Func) (args : List SV) (hp : Hp) (fs : Fs) : St := { sz := args.length + (fn.ntmps - args.length), tmps := fun i => args.getD i undefS, hp := hp, facts := fs }
section
variable {P : Program} {ρ : Env} {w0 : World} {M : Nat -> Prop} {gl : Gl} {β : Bm} {w : World} {hp : Hp} {fs : Fs}
theorem entry_conc {fn : Func} {args : List SV} (hh : Heap ρ w0 M β hp w) (hf : FsOk ρ fs) (ha : SV.oks ρ hp.n args) (hg : GlOk gl β hp.n) :
  Conc ρ w0 M gl β (entrySt fn args hp fs) { tmps := (SV.evs ρ β args).toArray ++ Array.replicate (fn.ntmps - (SV.evs ρ β args).toArray.size) undef, defers := [] } w := by
 have hlen : (SV.evs ρ β args).toArray.size = args.length := by rw [SV.evs_map]; simp
 refine ⟨by simp [SV.evs_map, entrySt], fun i hi => ?_, rfl, fun i _ => ?_, hh, hf, hg⟩
 ·simp only [entrySt] at hi ⊢
  by_cases hia : i < args.length
  ·rw [Array.getElem?_append_left (by rw [hlen]; exact hia), List.getElem?_toArray, SV.evs_map, lMp]
   simp [hia]
  ·rw [Array.getElem?_append_right (by rw [hlen]; omega), hlen]
   rw [Array.getElem?_replicate, if_pos (by omega)]
   simp only [List.getD, lNo (Nat.le_of_not_lt hia)]; rfl
 ·simp only [entrySt, List.getD]
  cases hs : args[i]? with
  | none => trivial
  | some s => exact oks_get ha hs
end
section
variable {P : Program} {F : Mng}
end
section
variable {P : Program} {ρ : Env} {w0 : World} {M : Nat -> Prop} {gl : Gl} {call : Caller} {keep : Nat -> List Nat} {fuel : Nat} {C : Code} {Q : Exit -> Act -> World -> Prop}
inductive Vw where
 | back (ok : Bool) (vs : List E)
 | out (x : Ex) (v : Option SV)
 | lost
def vwOf (P : Program) (fn : Func) (gl : Gl) (τ : Tm) (n : Nat) : Lf -> Vw
 | .back st => .back (τ.fit gl (τ.solve st) st) ((List.range n).map (τ.solve st))
 | .fwd (.done r) => .out r.x ((resultsS P r.st fn.results.toList).map packS)
 | .fwd (.loop _ _) => .lost
theorem rounds_le {b : Code} {Q : Exit -> Act -> World -> Prop} : ∀ {n m : Nat} {a : Act} {w : World}, n <= m -> Code.rounds P b Q n a w -> Code.rounds P b Q m a w
 | 0, _, _, _, _, h => h.elim
 | n + 1, 0, _, _, hnm, _ => by omega
 | n + 1, m + 1, a, w, hnm, h => by
  rw [rounds_succ] at *
  exact wp_mono h fun e a w he => by
   cases e with
   | normal => exact rounds_le (by omega) (show Code.rounds P b Q n a w from he)
   | exit id => exact he
   | goto l => exact he
   | ret => exact he
   | panic c => exact he
   | outgrown => exact he
theorem loop_inv {fn : Func} {n : Nat} (hc : ∀ ρ', SameEnv ρ ρ' -> CallOk P ρ' w0 M gl call) (hm : P.follows .mixedOrders = true) {p : Path} {b : Code} (hb : bodyAt C p = some b) {τ : Tm} (I : Env -> Nat -> Prop) (R : Env -> SV -> Prop)
  (hround : ∀ ρ' m g, SameEnv ρ ρ' -> FsOk ρ' (τ.st g).facts -> I ρ' m -> ((roundT P gl call keep fuel C p b (τ.st g)).map (vwOf P fn gl τ n)).holds ρ' fun v => match v with
   | .back ok vs => ok = true /\ ∀ σ : Nat -> E, (∀ i, i < n -> σ i = vs.getD i (.var i)) -> ∃ m', m' < m /\ I (envSub ρ' σ) m'
   | .out (.exit _) _ => False
   | .out _ (some v) => R ρ' v
   | .out _ none => False
   | .lost => False)
  (hend : ∀ ρ' (β : Bm) (r : Rs) (v : SV) (a : Act) (w : World), SameEnv ρ ρ' -> Conc ρ' w0 M gl β r.st a w -> (∀ id, r.x ≠ .exit id) -> (resultsS P r.st fn.results.toList).map packS = some v -> R ρ' v -> Q r.x.to a w) :
  ∀ (m : Nat) (ρ' : Env) (g : Nat -> Value) (β : Bm) (a : Act) (w : World), SameEnv ρ ρ' -> I ρ' m -> Conc ρ' w0 M gl β (τ.st g) a w -> Code.rounds P b (postAt P C p Q) (m + 1) a w := by
 intro m
 induction m using Nat.strongRecOn with
 | _ m ih =>
  intro ρ' g β a w hρ hI hst; have h := T.holds_map'.1 (hround ρ' m g hρ hst.facts hI); unfold roundT at h; rw [T.holds_bind] at h; rw [rounds_succ]; refine execP_run (hc ρ' hρ) hm b β _ a w _ hst (T.holds_mono (fun s hs => ?_) h)
  cases s with
  | loop _ _ => exact hs.elim
  | done r =>
   obtain ⟨x, st'⟩ := r
   have fwd : ∀ x', x' = x -> x' ≠ .normal -> T.holds ρ' ((resumeP P gl call keep fuel C p ⟨x', st'⟩).map Lf.fwd) (fun lf => match vwOf P fn gl τ n lf with
     | .back ok vs => ok = true /\ ∀ σ : Nat -> E, (∀ i, i < n -> σ i = vs.getD i (.var i)) -> ∃ m', m' < m /\ I (envSub ρ' σ) m'
     | .out (.exit _) _ => False
     | .out _ (some v) => R ρ' v
     | .out _ none => False
     | .lost => False) -> Ends ρ' w0 M gl β (τ.st g).hp (Exit.then (Code.rounds P b (postAt P C p Q) m) (postAt P C p Q)) ⟨x', st'⟩ := fun x' hx' hne hs => by
    intro β' a' w' hx hl hss hc'; rw [T.holds_map'] at hs; have := resumeP_run (hc ρ' hρ) hm C p β' ⟨x', st'⟩ a' w' Q hc' (T.holds_mono (fun s' hs' => ?_) hs)
    ·cases x' with
     | normal => exact absurd rfl hne
     | exit id => exact this
     | ret => exact this
    ·cases s' with
     | loop _ _ => exact hs'.elim
     | done r' =>
      intro β2 a2 w2 _ _ _ hc2; obtain ⟨y, st2⟩ := r'; cases hv : (resultsS P st2 fn.results.toList).map packS with
      | none =>
       simp only [vwOf, hv] at hs'; cases y <;> exact hs'.elim
      | some v =>
       simp only [vwOf, hv] at hs'; cases y with
       | exit id => exact hs'.elim
       | normal => exact hend ρ' β2 ⟨.normal, st2⟩ v a2 w2 hρ hc2 (fun id h => by cases h) hv hs'
       | ret => exact hend ρ' β2 ⟨.ret, st2⟩ v a2 w2 hρ hc2 (fun id h => by cases h) hv hs'
   cases x with
   | normal =>
    intro β' a' w' hx hl hss hc'; obtain ⟨hfit, hI'⟩ : τ.fit gl (τ.solve st') st' = true /\ ∀ σ : Nat -> E, (∀ i, i < n -> σ i = ((List.range n).map (τ.solve st')).getD i (.var i)) -> ∃ m', m' < m /\ I (envSub ρ' σ) m' := hs; obtain ⟨m', hlt, hi⟩ := hI' (τ.solve st') (fun i hi => by simp [hi])
    have hc2 := Tm.fit_run hc' hfit; have := ih m' hlt _ _ _ a' w' (hρ.sub _) hi hc2; show Code.rounds P b (postAt P C p Q) m a' w'; exact rounds_le (by omega) this
   | exit id => exact fwd (.exit id) rfl (by intro h; cases h) hs
   | ret => exact fwd .ret rfl (by intro h; cases h) hs
end
def normF (fs : Fs) : E -> E
 | .bin .eq k a b => .bin .eq k (canon fs (a.deep fs)) (canon fs (b.deep fs))
 | c => c.deep fs
def learnAll : Fs -> Fs -> Fs
 | [], fs => fs
 | (c, b) :: l, fs => match normF fs c with
  | .app f j a => (.app f j a, b) :: learnAll l fs
  | .bin .eq k (.app f j a) e => (.bin .eq k (.app f j a) e, b) :: learnAll l fs
  | c' => learn (learnAll l fs) c' b
structure Rule where
 prem : Fs
 con : Fs
def knows (fs : Fs) : Fs -> Bool
 | [] => true
 | (c, b) :: l => (decideD fs c == some b) && knows fs l
def addRules : Fs -> List Rule -> Fs
 | fs, [] => fs
 | fs, r :: l => match knows fs r.prem with
  | true => addRules (learnAll r.con fs) l
  | false => addRules fs l
def RuleOk (ρ : Env) (r : Rule) : Prop := FsOk ρ r.prem -> FsOk ρ r.con
section
variable {ρ : Env}
theorem normF_ev {fs : Fs} (hf : FsOk ρ fs) (c : E) : (normF fs c).ev ρ = c.ev ρ := by
 unfold normF; split
 ·simp only [E.ev, canon_ev hf, E.deep_ev hf]
 ·exact E.deep_ev hf _
theorem learnAll_ok : ∀ {l fs : Fs}, FsOk ρ l -> FsOk ρ fs -> FsOk ρ (learnAll l fs)
 | [], fs, _, h => h
 | (c, b) :: l, fs, hl, h => by
  have ih := learnAll_ok (l := l) (fun p hp => hl p (lTl _ hp)) h
  have h1 : c.ev ρ ≠ 0 ↔ b = true := hl (c, b) (lHd ..); have h2 : (normF fs c).ev ρ ≠ 0 ↔ b = true := by rw [normF_ev h]; exact h1
  have hc : ∀ x : E, normF fs c = x -> FsOk ρ ((x, b) :: learnAll l fs) := fun x hx p hp => by
   rcases mCo.1 hp with rfl | hp
   ·rw [hx] at h2; exact h2
   ·exact ih p hp
  unfold learnAll; split
  ·rename_i hx; exact hc _ hx
  ·rename_i hx; exact hc _ hx
  ·rename_i hx; exact learn_ok ih h2
theorem knows_ok {fs : Fs} (hf : FsOk ρ fs) : ∀ {l : Fs}, knows fs l = true -> FsOk ρ l
 | [], _ => fun p hp => by cases hp
 | (c, b) :: l, h => by
  simp only [knows, bAnd, beq_iff_eq] at h; intro p hp; rcases mCo.1 hp with rfl | hp
  ·have := decideD_spec hf h.1
   show c.ev ρ ≠ 0 ↔ b = true; rw [<- this]; simp
  ·exact knows_ok hf h.2 p hp
theorem addRules_ok : ∀ {rs : List Rule} {fs : Fs}, FsOk ρ fs -> (∀ r ∈ rs, RuleOk ρ r) -> FsOk ρ (addRules fs rs)
 | [], fs, hf, _ => hf
 | r :: rs, fs, hf, h => by
  unfold addRules; split
  ·rename_i hk
   exact addRules_ok (learnAll_ok (h r (lHd ..) (knows_ok hf hk)) hf) fun r' hr' => h r' (lTl _ hr')
  ·exact addRules_ok hf fun r' hr' => h r' (lTl _ hr')
end
abbrev Spc := FuncId -> List SV -> Hp -> Fs -> Option Out
def SpecOk (P : Program) (ρ : Env) (w0 : World) (M : Nat -> Prop) (gl : Gl) (sp : Spc) : Prop := ∀ (f : FuncId) (args : List SV) (hp : Hp) (fs : Fs) (o : Out), sp f args hp fs = some o ->
 ∀ (β : Bm) (w : World), Heap ρ w0 M β hp w -> FsOk ρ fs -> SV.oks ρ hp.n args -> GlOk gl β hp.n ->
  Calls P f (SV.evs ρ β args).toArray w fun e w' => ∃ β', Ext hp.n β β' /\ hp.n <= o.hp.n /\ Stay hp o.hp /\ Heap ρ w0 M β' o.hp w' /\ FsOk ρ o.fs /\ o.v.ok ρ o.hp.n /\ e = .returned (o.v.ev ρ β')
def noSpec : Spc := fun _ _ _ _ => none
def sumSpec (sums : Sums) : Spc := fun f args hp fs => match sums f args with
 | some v0 => match sums f (canonL fs args) with
  | some v => some ⟨v, hp, fs⟩
  | none => some ⟨v0, hp, fs⟩
 | none => none
def orSpec (a b : Spc) : Spc := fun f args hp fs => match a f args hp fs with
 | some o => some o
 | none => b f args hp fs
def callG (P : Program) (gl : Gl) (okF : FuncId -> Bool) (sp : Spc) (keep : FuncId -> Nat -> List Nat) (fuel : Nat) : Nat -> Caller
 | 0, _, _, _, _ => .bad 150
 | n + 1, f, args, hp, fs =>
  if okF f then
   match sp f args hp fs with
   | some o => .ok o
   | none => match P.funcs[f]? with
    | some fn => match fn.body with
     | some c => (exec P gl (callG P gl okF sp keep fuel n) (keep f) fuel c { sz := args.length + (fn.ntmps - args.length), tmps := fun i => args.getD i undefS, hp := hp, facts := fs }).bind fun r => match r.x with
      | .exit _ => .bad 151
      | _ => match resultsS P r.st fn.results.toList with
       | some vs => .ok ⟨packS vs, r.st.hp, r.st.facts⟩
       | none => .bad 152
     | none => .bad 153
    | none => .bad 154
  else .bad 155
section
variable {P : Program} {ρ : Env} {w0 : World} {M : Nat -> Prop} {gl : Gl} {w : World} {hp : Hp} {fs : Fs}
theorem noSpec_ok : SpecOk P ρ w0 M gl noSpec := fun _ _ _ _ _ h => by cases h
theorem sumSpec_ok {sums : Sums} (hsum : SumsOk P ρ w0 M sums) : SpecOk P ρ w0 M gl (sumSpec sums) := fun f args hp fs o h β w hh hf ha hg => by
 have fin : ∀ v : SV, o = ⟨v, hp, fs⟩ -> (v.ok ρ hp.n /\ ∀ w, Kept w0 M w -> Calls P f (SV.evs ρ β args).toArray w fun e w' => e = .returned (v.ev ρ β) /\ Below w.heap.size w w') -> Calls P f (SV.evs ρ β args).toArray w fun e w' => ∃ β', Ext hp.n β β' /\ hp.n <= o.hp.n /\ Stay hp o.hp /\ Heap ρ w0 M β' o.hp w' /\ FsOk ρ o.fs /\ o.v.ok ρ o.hp.n /\ e = .returned (o.v.ev ρ β') := fun v ho hv => by
  subst ho; exact (hv.2 w hh.kept).mono fun e w' ⟨he, hb⟩ => ⟨β, Ext.refl _ _, Nat.le_refl _, Stay.refl _, hh.below hb, hf, hv.1, he⟩
 unfold sumSpec at h; split at h
 ·rename_i v0 hv0
  split at h
  ·rename_i v hv
   obtain ⟨c1, c2⟩ := canonL_spec hf β hp.n args; have := hsum f _ v hv hp.n β (c2 ha); rw [c1] at this; exact fin v (sinj h).symm this
  ·exact fin v0 (sinj h).symm (hsum f args v0 hv0 hp.n β ha)
 ·cases h
theorem orSpec_ok {a b : Spc} (h1 : SpecOk P ρ w0 M gl a) (h2 : SpecOk P ρ w0 M gl b) : SpecOk P ρ w0 M gl (orSpec a b) := fun f args hp fs o h => by
 unfold orSpec at h; split at h
 ·rename_i o' ho
  obtain rfl := sinj h; exact h1 f args hp fs o' ho
 ·exact h2 f args hp fs o h
theorem callG_run {okF : FuncId -> Bool} {sp : Spc} {keep : FuncId -> Nat -> List Nat} {fuel : Nat} (hm : P.follows .mixedOrders = true) (hok : ∀ f, okF f = true -> ∀ as w, (callFunc f as).run P w = .ok (.enter f as) w) (hsp : SpecOk P ρ w0 M gl sp) :
  ∀ n : Nat, CallOk P ρ w0 M gl (callG P gl okF sp keep fuel n)
 | 0 => fun f args hp fs β w K hh hf ha hg h => h.elim
 | n + 1 => fun f args hp fs β w K hh hf ha hg h => by
  unfold callG at h; split at h
  ·rename_i hof
   refine ⟨hok f hof, ?_⟩; split at h
   ·rename_i o ho
    refine (hsp f args hp fs o ho β w hh hf ha hg).mono fun e w' ⟨β', h1, h2, h3, h4, h5, h6, h7⟩ => ⟨_, h7, ?_⟩
    exact h β' w' h1 h2 h3 h4 h5 h6
   ·split at h
    ·rename_i fn hfn
     split at h
     ·rename_i c hb
      unfold Goes at h; rw [T.holds_bind] at h; refine calls_of_wp hfn hb ?_; refine exec_run (callG_run hm hok hsp n) hm c β _ _ w _ (entry_conc (fn := fn) hh hf ha hg) (T.holds_mono (fun r hr => ?_) h)
      obtain ⟨x, st'⟩ := r; intro β' a' w' hx hl hs hc'; cases x with
      | exit id => exact hr.elim
      | normal =>
       simp only at hr; split at hr
       ·rename_i vs hvs
        obtain ⟨r1, r2⟩ := results_run hc' hvs; exact ⟨hc'.defers, _, r1, _, rfl, hr β' w' hx hl hs hc'.heap hc'.facts r2⟩
       ·exact hr.elim
      | ret =>
       simp only at hr; split at hr
       ·rename_i vs hvs
        obtain ⟨r1, r2⟩ := results_run hc' hvs; exact ⟨hc'.defers, _, r1, _, rfl, hr β' w' hx hl hs hc'.heap hc'.facts r2⟩
       ·exact hr.elim
     ·exact h.elim
    ·exact h.elim
  ·exact h.elim
end
structure TmR where
 τ : Tm
 mea : E
 rs : List Rule
structure CutR where
 p : Path
 rank : Nat
 ts : List TmR
def SameK (K : Nat) (ρ ρ' : Env) : Prop := ρ'.fn = ρ.fn /\ ρ'.arr = ρ.arr /\ ∀ i, i < K -> ρ'.v i = ρ.v i
def fixedOk (K : Nat) (fs : Fs) (σ : Nat -> E) : Bool := (List.range K).all fun i => eqF fs (σ i) (.var i)
def withR (rs : List Rule) (st : St) : St := { st with facts := addRules st.facts rs }
def fitR (gl : Gl) (K : Nat) (τ : Tm) (st : St) : Bool := τ.fit gl (τ.solve st) st && fixedOk K st.facts (τ.solve st)
def leafOkR (gl : Gl) (cuts : List CutR) (endOk : Rs -> Bool) (K : Nat) (rs : List Rule) (rk : Nat) : Sp -> Bool
 | .done r => endOk ⟨r.x, withR rs r.st⟩ || noWay (addRules r.st.facts rs)
 | .loop p st => (cuts.any fun c => (c.p == p) && decide (c.rank < rk) && c.ts.any fun t => fitR gl K t.τ (withR rs st)) || noWay (addRules st.facts rs)
def backOkR (gl : Gl) (K : Nat) (c : CutR) (t : TmR) (st : St) : Bool :=
 (c.ts.any fun t' => fitR gl K t'.τ (withR t.rs st) && (decideE (withR t.rs st).facts (.bin .lt .i64 (t'.mea.sub (t'.τ.solve (withR t.rs st))) t.mea) == some true)) || noWay (addRules st.facts t.rs)
def lfOkR (gl : Gl) (cuts : List CutR) (endOk : Rs -> Bool) (K : Nat) (c : CutR) (t : TmR) : Lf -> Bool
 | .back st => backOkR gl K c t st
 | .fwd s => leafOkR gl cuts endOk K t.rs c.rank s
def roundOkR (P : Program) (gl : Gl) (call : Caller) (keep : Nat -> List Nat) (fuel : Nat) (cuts : List CutR) (endOk : Rs -> Bool) (K : Nat) (C : Code) (p : Fs) (c : CutR) (t : TmR) (g : Nat -> Value) : Bool :=
 match bodyAt C c.p with
 | some b => (decideE (t.τ.stP g p).facts (.bin .lt .i64 t.mea (.lit 0)) == some false) && (roundT P gl call keep fuel C c.p b (t.τ.stP g p)).all (lfOkR gl cuts endOk K c t)
 | none => false
section
variable {P : Program} {ρ : Env} {w0 : World} {M : Nat -> Prop} {gl : Gl} {call : Caller} {keep : Nat -> List Nat} {fuel : Nat} {cuts : List CutR} {endOk : Rs -> Bool} {C : Code} {Q : Exit -> Act -> World -> Prop} {K : Nat}
theorem SameK.refl (ρ : Env) : SameK K ρ ρ := ⟨rfl, rfl, fun _ _ => rfl⟩
theorem SameK.sub {ρ' : Env} {fs : Fs} {σ : Nat -> E} (h : SameK K ρ ρ') (hf : FsOk ρ' fs) (hx : fixedOk K fs σ = true) : SameK K ρ (envSub ρ' σ) :=
 ⟨h.1, h.2.1, fun i hi => by
  have := lAl.1 hx i (mRa.2 hi); exact (eqF_spec hf this).trans (h.2.2 i hi)⟩
theorem lt_of_decide {fs : Fs} (hf : FsOk ρ fs) {a b : E} (h : decideE fs (.bin .lt .i64 a b) = some true) : a.ev ρ < b.ev ρ := by
 have h1 : (if a.ev ρ < b.ev ρ then (1 : Int) else 0) ≠ 0 := of_decide_eq_true (decideE_spec hf h)
 by_cases hl : a.ev ρ < b.ev ρ
 ·exact hl
 ·rw [if_neg hl] at h1; exact absurd rfl h1
theorem ge_of_decide {fs : Fs} (hf : FsOk ρ fs) {a b : E} (h : decideE fs (.bin .lt .i64 a b) = some false) : b.ev ρ <= a.ev ρ := by
 have h1 : ¬ (if a.ev ρ < b.ev ρ then (1 : Int) else 0) ≠ 0 := of_decide_eq_false (decideE_spec hf h)
 by_cases hl : a.ev ρ < b.ev ρ
 ·rw [if_pos hl] at h1; simp at h1
 ·omega
theorem withR_conc {rs : List Rule} {st : St} {β : Bm} {a : Act} {w : World} (h : Conc ρ w0 M gl β st a w) (hr : ∀ r ∈ rs, RuleOk ρ r) : Conc ρ w0 M gl β (withR rs st) a w :=
 h.facts_to (addRules_ok h.facts hr)
set_option maxHeartbeats 1000000 in
theorem loopsX_run {ax : Fs} (hax : ∀ ρ', SameK K ρ ρ' -> FsOk ρ' ax) (hc : ∀ ρ', SameK K ρ ρ' -> CallOk P ρ' w0 M gl call) (hm : P.follows .mixedOrders = true)
  (hend : ∀ ρ' (β : Bm) (r : Rs) (a : Act) (w : World), SameK K ρ ρ' -> Conc ρ' w0 M gl β r.st a w -> endOk r = true -> Q r.x.to a w)
  (hrule : ∀ ρ', SameK K ρ ρ' -> ∀ c ∈ cuts, ∀ t ∈ c.ts, ∀ r ∈ t.rs, RuleOk ρ' r)
  (hr : ∀ c ∈ cuts, ∀ t ∈ c.ts, ∃ ct : CT, ∀ g, ct.all fun p => roundOkR P gl call keep fuel cuts endOk K C (p ++ ax) c t g = true) :
  ∀ (rk : Nat) (ρ' : Env) (β : Bm) (p : Path) (st : St) (a : Act) (w : World), SameK K ρ ρ' -> (cuts.any fun c => (c.p == p) && decide (c.rank < rk) && c.ts.any fun t => fitR gl K t.τ st) = true -> Conc ρ' w0 M gl β st a w -> LoopAt P C p Q a w
 | 0, ρ', β, p, st, a, w, hρ, h, hst => by
  simp only [List.any_eq_true, bAnd, dEq] at h; obtain ⟨c, _, ⟨_, h⟩, _⟩ := h; omega
 | rk + 1, ρ', β, p, st, a, w, hρ, h, hst => by
  simp only [List.any_eq_true, bAnd, dEq] at h; obtain ⟨c, hcm, ⟨hp, hrk⟩, t, ht, hfit⟩ := h; obtain rfl : c.p = p := by simpa using hp
  obtain ⟨ct0, hct0⟩ := hr c hcm t ht; obtain ⟨p0, _, h0⟩ := CT.some ρ' (hct0 (fun _ => undef))
  unfold roundOkR at h0; split at h0
  rotate_left
  ·cases h0
  rename_i b hb; refine ⟨b, hb, ?_⟩
  -- the measure is no negative number
  have pos : ∀ (ρ'' : Env) (t : TmR) (g : Nat -> Value) (β : Bm) (a : Act) (w : World), SameK K ρ ρ'' -> t ∈ c.ts -> Conc ρ'' w0 M gl β (t.τ.st g) a w -> 0 <= t.mea.ev ρ'' := fun ρ'' t g β a w hρ'' ht hst => by
   obtain ⟨ct1, hct1⟩ := hr c hcm t ht; obtain ⟨p1, hp1, h1⟩ := CT.some ρ'' (hct1 g); unfold roundOkR at h1; rw [hb] at h1; simp only [bAnd, beq_iff_eq] at h1; exact ge_of_decide (fsOk_app (fsOk_app hp1 (hax ρ'' hρ'')) hst.facts) h1.1
  -- round by round
  have key : ∀ (m : Nat) (ρ'' : Env) (t : TmR) (g : Nat -> Value) (β : Bm) (a : Act) (w : World), SameK K ρ ρ'' -> t ∈ c.ts -> Conc ρ'' w0 M gl β (t.τ.st g) a w -> (t.mea.ev ρ'').toNat < m -> Code.rounds P b (postAt P C c.p Q) m a w := by
   intro m
   induction m with
   | zero => intro ρ'' t g β a w _ _ _ hlt; omega
   | succ m ih =>
    intro ρ'' t g β a w hρ'' ht hst hlt; have hrl := hrule ρ'' hρ'' c hcm t ht; have hpos' := pos ρ'' t g β a w hρ'' ht hst; obtain ⟨ct1, hct1⟩ := hr c hcm t ht; obtain ⟨p1, hp1, h1⟩ := CT.some ρ'' (hct1 g)
    replace hst : Conc ρ'' w0 M gl β (t.τ.stP g (p1 ++ ax)) a w := hst.facts_to (fsOk_app (fsOk_app hp1 (hax ρ'' hρ'')) hst.facts)
    unfold roundOkR at h1; rw [hb] at h1; simp only [bAnd, beq_iff_eq] at h1; have h2 := T.all_holds (ρ := ρ'') h1.2; unfold roundT at h2; rw [T.holds_bind] at h2; rw [rounds_succ]; refine execP_run (hc ρ'' hρ'') hm b β _ a w _ hst (T.holds_mono (fun s hs => ?_) h2)
    cases s with
    | loop _ _ => exact hs.elim
    | done r =>
     obtain ⟨x, st'⟩ := r
     have fwd : ∀ x', x' = x -> x' ≠ .normal -> T.holds ρ'' ((resumeP P gl call keep fuel C c.p ⟨x', st'⟩).map Lf.fwd) (fun lf => lfOkR gl cuts endOk K c t lf = true) -> Ends ρ'' w0 M gl β (t.τ.st g).hp (Exit.then (Code.rounds P b (postAt P C c.p Q) m) (postAt P C c.p Q)) ⟨x', st'⟩ := fun x' hx' hne hs => by
      intro β' a' w' hx hl hss hc'; rw [T.holds_map'] at hs; have := resumeP_run (hc ρ'' hρ'') hm C c.p β' ⟨x', st'⟩ a' w' Q hc' (T.holds_mono (fun s' hs' => ?_) hs)
      ·cases x' with
       | normal => exact absurd rfl hne
       | exit id => exact this
       | ret => exact this
      ·cases s' with
       | done r' =>
        intro β2 a2 w2 _ _ _ hc2; have hs2 : (endOk ⟨r'.x, withR t.rs r'.st⟩ || noWay (addRules r'.st.facts t.rs)) = true := hs'
        have hc3 := withR_conc hc2 hrl; rw [bOr] at hs2; rcases hs2 with hs2 | hs2
        ·exact hend ρ'' β2 ⟨r'.x, withR t.rs r'.st⟩ a2 w2 hρ'' hc3 hs2
        ·exact (noWay_spec hc3.facts hs2).elim
       | loop p' st2 =>
        intro β2 a2 w2 _ _ _ hc2; have hs2 : ((cuts.any fun c' => (c'.p == p') && decide (c'.rank < c.rank) && c'.ts.any fun t' => fitR gl K t'.τ (withR t.rs st2)) || noWay (addRules st2.facts t.rs)) = true := hs'
        have hc3 := withR_conc hc2 hrl; rw [bOr] at hs2; rcases hs2 with hs2 | hs2
        ·refine loopsX_run hax hc hm hend hrule hr rk ρ'' β2 p' (withR t.rs st2) a2 w2 hρ'' ?_ hc3
         simp only [List.any_eq_true, bAnd, dEq] at hs2 ⊢; obtain ⟨c', hcm', ⟨hp', hrk'⟩, hx'⟩ := hs2; exact ⟨c', hcm', ⟨hp', by omega⟩, hx'⟩
        ·exact (noWay_spec hc3.facts hs2).elim
     cases x with
     | normal =>
      intro β' a' w' hx hl hss hc'; have hs' : backOkR gl K c t st' = true := hs; have hc3 := withR_conc hc' hrl; unfold backOkR at hs'; rw [bOr] at hs'; rcases hs' with hs' | hs'
      rotate_left
      ·exact (noWay_spec hc3.facts hs').elim
      simp only [List.any_eq_true, bAnd, beq_iff_eq] at hs'; obtain ⟨t', ht', hfit', hdec⟩ := hs'; unfold fitR at hfit'; rw [bAnd] at hfit'; have hc2 := Tm.fit_run hc3 hfit'.1; have hd := lt_of_decide hc3.facts hdec; rw [E.sub_ev] at hd; have hp3' := pos _ t' _ _ a' w' (hρ''.sub hc3.facts hfit'.2) ht' hc2; exact ih _ t' _ _ a' w' (hρ''.sub hc3.facts hfit'.2) ht' hc2 (by omega)
     | exit id => exact fwd (.exit id) rfl (by intro h; cases h) hs
     | ret => exact fwd .ret rfl (by intro h; cases h) hs
  unfold fitR at hfit; rw [bAnd] at hfit; exact more_rounds ((t.mea.ev (envSub ρ' (t.τ.solve st))).toNat + 1) (key _ _ t _ _ a w (hρ.sub hst.facts hfit.2) ht (Tm.fit_run hst hfit.1) (by omega))
theorem codeX_run {ax : Fs} (hax : ∀ ρ', SameK K ρ ρ' -> FsOk ρ' ax) (hc : ∀ ρ', SameK K ρ ρ' -> CallOk P ρ' w0 M gl call) (hm : P.follows .mixedOrders = true)
  (hend : ∀ ρ' (β : Bm) (r : Rs) (a : Act) (w : World), SameK K ρ ρ' -> Conc ρ' w0 M gl β r.st a w -> endOk r = true -> Q r.x.to a w)
  (hrule : ∀ ρ', SameK K ρ ρ' -> ∀ c ∈ cuts, ∀ t ∈ c.ts, ∀ r ∈ t.rs, RuleOk ρ' r)
  (hr : ∀ c ∈ cuts, ∀ t ∈ c.ts, ∃ ct : CT, ∀ g, ct.all fun p => roundOkR P gl call keep fuel cuts endOk K C (p ++ ax) c t g = true) {rs0 : List Rule} (hr0 : ∀ r ∈ rs0, RuleOk ρ r) {rk : Nat} {β : Bm} {st : St} {a : Act} {w : World} (hst : Conc ρ w0 M gl β st a w)
  (h : (execP P gl call keep fuel C st).holds ρ fun s => leafOkR gl cuts endOk K rs0 rk s = true) : C.wp P Q a w := by
 refine execP_run (hc ρ (SameK.refl ρ)) hm C β st a w Q hst (T.holds_mono (fun s hs => ?_) h)
 cases s with
 | done r =>
  intro β2 a2 w2 _ _ _ hc2; have hs2 : (endOk ⟨r.x, withR rs0 r.st⟩ || noWay (addRules r.st.facts rs0)) = true := hs
  have hc3 := withR_conc hc2 hr0; rw [bOr] at hs2; rcases hs2 with hs2 | hs2
  ·exact hend ρ β2 ⟨r.x, withR rs0 r.st⟩ a2 w2 (SameK.refl ρ) hc3 hs2
  ·exact (noWay_spec hc3.facts hs2).elim
 | loop p st' =>
  intro β2 a2 w2 _ _ _ hc2; have hs2 : ((cuts.any fun c' => (c'.p == p) && decide (c'.rank < rk) && c'.ts.any fun t' => fitR gl K t'.τ (withR rs0 st')) || noWay (addRules st'.facts rs0)) = true := hs
  have hc3 := withR_conc hc2 hr0; rw [bOr] at hs2; rcases hs2 with hs2 | hs2
  ·exact loopsX_run hax hc hm hend hrule hr rk ρ β2 p (withR rs0 st') a2 w2 (SameK.refl ρ) hs2 hc3
  ·exact (noWay_spec hc3.facts hs2).elim
theorem fn_runX {ax : Fs} (hax : ∀ ρ', SameK K ρ ρ' -> FsOk ρ' ax) {R : Ending -> World -> Prop} {w : World} {β : Bm} {hp : Hp} (hc : ∀ ρ', SameK K ρ ρ' -> CallOk P ρ' w0 M gl call) (hm : P.follows .mixedOrders = true) {f : FuncId} {fn : Func} (hfn : P.funcs[f]? = some fn) (hbd : fn.body = some C) {args : List SV} {fs0 : Fs} {rk : Nat} (hh : Heap ρ w0 M β hp w) (hg : GlOk gl β hp.n) (hfs : FsOk ρ fs0)
  (hargs : SV.oks ρ hp.n args)
  (hrule : ∀ ρ', SameK K ρ ρ' -> ∀ c ∈ cuts, ∀ t ∈ c.ts, ∀ r ∈ t.rs, RuleOk ρ' r)
  (hr : ∀ c ∈ cuts, ∀ t ∈ c.ts, ∃ ct : CT, ∀ g, ct.all fun p => roundOkR P gl call keep fuel cuts endOk K C (p ++ ax) c t g = true) {rs0 : List Rule} (hr0 : ∀ r ∈ rs0, RuleOk ρ r)
  (h : (execP P gl call keep fuel C (entrySt fn args hp fs0)).all (leafOkR gl cuts endOk K rs0 rk) = true)
  (hend : ∀ ρ' (β' : Bm) (r : Rs) (a : Act) (w' : World), SameK K ρ ρ' -> Conc ρ' w0 M gl β' r.st a w' -> endOk r = true -> (∀ id, r.x ≠ .exit id) /\ ∃ vs, resultsS P r.st fn.results.toList = some vs /\ R (.returned ((packS vs).ev ρ' β')) w') :
  Calls P f (SV.evs ρ β args).toArray w R := by
 refine calls_of_wp hfn hbd (codeX_run hax hc hm ?_ hrule hr hr0 (entry_conc hh hfs hargs hg) (T.all_holds h)); intro ρ' β' r a w' hρ hst he; obtain ⟨h1, vs, hvs, hR⟩ := hend ρ' β' r a w' hρ hst he; obtain ⟨x, st⟩ := r; obtain ⟨r1, r2⟩ := results_run hst hvs; cases x with
 | exit id => exact absurd rfl (h1 id)
 | normal => exact ⟨hst.defers, _, r1, hR⟩
 | ret => exact ⟨hst.defers, _, r1, hR⟩
theorem no_ax {p : Fs -> Prop} {ct : CT} (h : ct.all p) : ct.all fun q => p (q ++ []) := by
 simp only [List.append_nil]; exact h
theorem fn_run {R : Ending -> World -> Prop} {w : World} {β : Bm} {hp : Hp} (hc : ∀ ρ', SameK K ρ ρ' -> CallOk P ρ' w0 M gl call) (hm : P.follows .mixedOrders = true) {f : FuncId} {fn : Func} (hfn : P.funcs[f]? = some fn) (hbd : fn.body = some C) {args : List SV} {fs0 : Fs} {rk : Nat} (hh : Heap ρ w0 M β hp w) (hg : GlOk gl β hp.n) (hfs : FsOk ρ fs0)
  (hargs : SV.oks ρ hp.n args)
  (hrule : ∀ ρ', SameK K ρ ρ' -> ∀ c ∈ cuts, ∀ t ∈ c.ts, ∀ r ∈ t.rs, RuleOk ρ' r)
  (hr : ∀ c ∈ cuts, ∀ t ∈ c.ts, ∃ ct : CT, ∀ g, ct.all fun p => roundOkR P gl call keep fuel cuts endOk K C p c t g = true) {rs0 : List Rule} (hr0 : ∀ r ∈ rs0, RuleOk ρ r)
  (h : (execP P gl call keep fuel C (entrySt fn args hp fs0)).all (leafOkR gl cuts endOk K rs0 rk) = true)
  (hend : ∀ ρ' (β' : Bm) (r : Rs) (a : Act) (w' : World), SameK K ρ ρ' -> Conc ρ' w0 M gl β' r.st a w' -> endOk r = true -> (∀ id, r.x ≠ .exit id) /\ ∃ vs, resultsS P r.st fn.results.toList = some vs /\ R (.returned ((packS vs).ev ρ' β')) w') :
  Calls P f (SV.evs ρ β args).toArray w R :=
 fn_runX (ax := []) (fun _ _ p hp => by cases hp) hc hm hfn hbd hh hg hfs hargs hrule (fun c hcm t ht => (hr c hcm t ht).imp fun ct h g => no_ax (h g)) hr0 h hend
end
mutual
def E.upto (K : Nat) : E -> Bool
 | .lit _ => true
 | .var i => decide (i < K)
 | .rd _ _ i => E.upto K i
 | .bin _ _ a b => E.upto K a && E.upto K b
 | .app _ _ l => E.uptos K l
def E.uptos (K : Nat) : List E -> Bool
 | [] => true
 | e :: l => E.upto K e && E.uptos K l
end
mutual
theorem E.ev_same {K : Nat} {ρ ρ' : Env} (h : SameK K ρ ρ') : ∀ e : E, e.upto K = true -> e.ev ρ' = e.ev ρ
 | .lit _, _ => rfl
 | .var i, he => h.2.2 i (of_decide_eq_true he)
 | .rd a f i, he => by simp only [E.ev]; rw [E.ev_same h i he]; unfold Env.rd; rw [h.2.1]
 | .bin o k a b, he => by
  simp only [E.upto, bAnd] at he; simp only [E.ev]; rw [E.ev_same h a he.1, E.ev_same h b he.2]
 | .app f j l, he => by simp only [E.ev]; rw [E.evs_same h l he, h.1]
theorem E.evs_same {K : Nat} {ρ ρ' : Env} (h : SameK K ρ ρ') : ∀ l : List E, E.uptos K l = true -> E.evs ρ' l = E.evs ρ l
 | [], _ => rfl
 | e :: l, he => by
  simp only [E.uptos, bAnd] at he; simp only [E.evs]; rw [E.ev_same h e he.1, E.evs_same h l he.2]
end
mutual
def SV.upto (K : Nat) : SV -> Bool
 | .int _ e => e.upto K
 | .bool e => e.upto K
 | .ptr _ _ | .slice _ _ _ _ | .map _ | .raw _ => true
 | .str l => E.uptos K l
 | .agg l => SV.uptos K l
 | .tuple l => SV.uptos K l
 | .func _ x y => SV.uptos K x && SV.uptos K y
 | .inp _ _ _ _ b c => b.upto K && c.upto K
 | .iptr _ _ _ b _ => b.upto K
def SV.uptos (K : Nat) : List SV -> Bool
 | [] => true
 | s :: l => SV.upto K s && SV.uptos K l
end
mutual
theorem SV.ev_same {K : Nat} {ρ ρ' : Env} {β : Bm} (h : SameK K ρ ρ') : ∀ s : SV, s.upto K = true -> s.ev ρ' β = s.ev ρ β
 | .int _ e, he => by simp only [SV.ev]; rw [E.ev_same h e he]
 | .bool e, he => by simp only [SV.ev]; rw [E.ev_same h e he]
 | .ptr _ _, _ => rfl
 | .slice _ _ _ _, _ => rfl
 | .map _, _ => rfl
 | .raw _, _ => rfl
 | .str l, he => by simp only [SV.ev]; rw [E.evs_same h l he]
 | .agg l, he => by simp only [SV.ev]; rw [SV.evs_same h l he]
 | .tuple l, he => by simp only [SV.ev]; rw [SV.evs_same h l he]
 | .func _ x y, he => by
  simp only [SV.upto, bAnd] at he; simp only [SV.ev]; rw [SV.evs_same h x he.1, SV.evs_same h y he.2]
 | .inp _ _ _ _ b c, he => by
  simp only [SV.upto, bAnd] at he; simp only [SV.ev]; rw [E.ev_same h b he.1, E.ev_same h c he.2]
 | .iptr _ _ _ b _, he => by simp only [SV.ev]; rw [E.ev_same h b he]
theorem SV.evs_same {K : Nat} {ρ ρ' : Env} {β : Bm} (h : SameK K ρ ρ') : ∀ l : List SV, SV.uptos K l = true -> SV.evs ρ' β l = SV.evs ρ β l
 | [], _ => rfl
 | s :: l, he => by
  simp only [SV.uptos, bAnd] at he; simp only [SV.evs]; rw [SV.ev_same h s he.1, SV.evs_same h l he.2]
end
def lenU (m : Nat) : Fs := [(.bin .lt .i64 (.lit 0) (.var m), true), (.bin .zrng .i64 (.var m) (.lit 0), true), (.bin .lt .i64 (.var (m + 1)) (.var m), false)]
structure ArrIn (w : World) (ks : List Lk) (b off len cap : Nat) (A : Nat -> Nat -> Int -> Int) : Prop where
 le : len <= cap
 max : len <= 9223372036854775807
 pos : 0 < len
 lt : b < w.heap.size
 cell : ∀ (i f : Nat) (l : Lk), i < len -> ks[f]? = some l -> w.cell? ⟨b, off + (i * ks.length + f), none⟩ = some (l.val ((kOf (l.code f)).wrap (A 0 (l.code f) i))) /\ l.fits ((kOf (l.code f)).wrap (A 0 (l.code f) i))
section
variable {P : Program} {w : World}
theorem ArrIn.of_heap {ρ : Env} {w0 : World} {M : Nat -> Prop} {β : Bm} {hp : Hp} (hh : Heap ρ w0 M β hp w) {k : Nat} {r : Bool} {ks : List Lk} {len0 len cap : E} (hk : hp.at k = some ⟨r, .arr 0 ks len0⟩)
  (h0 : (len.ev ρ) = len0.ev ρ) (h1 : 0 < len.ev ρ) (h2 : len.ev ρ <= cap.ev ρ) (h3 : len.ev ρ <= 9223372036854775807) : ArrIn w ks (β k).1 (β k).2 (len.ev ρ).toNat (cap.ev ρ).toNat ρ.arr := by
 refine ⟨by omega, by omega, by omega, Nat.lt_of_lt_of_le (hh.arrs k _ hk rfl).1 hh.kept.size, fun i f l hi hl => ?_⟩
 have := hh.lies k _ hk; simp only [Bx.lies] at this; exact this i f l (by rw [<- h0]; exact hi) hl
theorem ArrIn.of_in {ks : List Lk} {S : Value} (h : InSl w ks S) : S = .slice none 0 0 \/ (∃ (b off cap : Nat), S = .slice (some ⟨b, off, none⟩) 0 cap /\ cap <= maxLen) \/
  ∃ (b off len cap : Nat) (A : Nat -> Nat -> Int -> Int), S = .slice (some ⟨b, off, none⟩) len cap /\ ArrIn w ks b off len cap A /\ cap <= maxLen := by
 rcases h with rfl | ⟨b, off, len, cap, c, rfl, h1, h2, h3, h4⟩
 ·exact .inl rfl
 ·by_cases h0 : len = 0
  ·subst h0
   exact .inr (.inl ⟨b, off, cap, rfl, h2⟩)
  ·refine .inr (.inr ⟨b, off, len, cap, arrOf ks c, rfl, ⟨h1, by unfold maxLen at h2; omega, by omega, h3 (by omega), fun i f l hi hl => ?_⟩, h2⟩)
   obtain ⟨q1, q2⟩ := arrOf_spec (F := fun _ _ _ => 0) (ns := []) hl (h4 i f l hl).1
   rw [(h4 i f l hl).2 hi]; exact ⟨by rw [<- q1]; rfl, q2⟩
theorem arr_start {ks : List Lk} {b off len cap : Nat} {A : Nat -> Nat -> Int -> Int} (tabs : Tabs) (hd : (tabs.map (·.1)).Nodup) (ht : TabsIn tabs w) (h : ArrIn w ks b off len cap A) (F : Mng) (ns : List Int) {m : Nat} (hn1 : ns.getD m 0 = len) (hn2 : ns.getD (m + 1) 0 = cap) :
  Heap (envA F ns A) w (fun _ => False) (upd (tabB tabs) tabs.length (b, off)) (arrHp tabs ks m) w /\ GlOk (tabGl tabs 0) (upd (tabB tabs) tabs.length (b, off)) (tabs.length + 1) /\ FsOk (envA F ns A) (lenU m) /\
  (SV.inp tabs.length ks.length 0 (.var m) (.var m) (.var (m + 1))).ok (envA F ns A) (tabs.length + 1) /\ (SV.inp tabs.length ks.length 0 (.var m) (.var m) (.var (m + 1))).ev (envA F ns A) (upd (tabB tabs) tabs.length (b, off)) = .slice (some ⟨b, off, none⟩) len cap := by
 have i1 : IntKind.i64.min = -9223372036854775808 := by decide
 have i2 : IntKind.i64.max = 9223372036854775807 := by decide
 have hle := h.le; have hmx := h.max; have hps := h.pos; refine ⟨(tab_heap hd ht _ _).pushRo (b := .arr 0 ks (.var m)) (bv := (b, off)) rfl trivial ?_ (fun _ => ⟨h.lt, fun h => h⟩), ?_, ?_, ⟨Nat.lt_succ_self _, ?_, ?_, ?_, ?_⟩, ?_⟩
 ·intro i f l hi hl
  simp only [E.ev, envA, hn1] at hi; exact h.cell i f l (by simpa using hi) hl
 ·exact tab_gl (fun j p hj => by
   have hjl := (lSo.1 hj).1; have : upd (tabB tabs) tabs.length (b, off) (0 + j) = tabB tabs j := by rw [Nat.zero_add]; exact upd_ext _ _ _ j hjl
   rw [this]; simp [tabB, hj]) (by omega)
 ·intro p hp
  simp only [lenU, mCo, List.not_mem_nil, or_false] at hp; rcases hp with rfl | rfl | rfl <;> simp only [E.ev, BOp.ev, envA, hn1, hn2, i1, i2]
  ·rw [if_pos (by omega)]; simp
  ·rw [if_pos (by omega)]; simp
  ·rw [if_neg (by omega)]; simp
 ·simp only [E.ev, envA, hn1]
  exact (wf_iff .i64 _).2 (by rw [i1, i2]; omega)
 ·simp only [E.ev, envA, hn1]; omega
 ·simp only [E.ev, envA, hn1, hn2]; omega
 ·simp only [E.ev, envA, hn1]; omega
 ·simp only [SV.ev, E.ev, envA, hn1, hn2, upd_same]
  simp
theorem phOne_pos : ∀ {hs : List Ph}, phOne hs = true -> 0 < (phKs hs).length
 | [], h => by cases h
 | .sh _ :: l, h => phOne_pos (hs := l) h
 | .sl ks :: l, h => by
  simp only [phOne, bAnd, Bool.not_eq_true'] at h; cases ks with
  | nil => cases h.1
  | cons _ _ => simp [phKs]
theorem phOne_rest {l : List Ph} (h : (l.all fun p => match p with
  | .sh _ => true
  | .sl _ => false) = true) : ∀ p ∈ l, ∀ ks, p ≠ .sl ks := fun p hp ks e => by
 have := lAl.1 h p hp; subst e; cases this
theorem phOne_ks : ∀ {hs : List Ph}, phOne hs = true -> ∀ p ∈ hs, ∀ ks', p = .sl ks' -> ks' = phKs hs
 | [], h => by cases h
 | .sh _ :: l, h => fun p hp ks' e => by
  rcases mCo.1 hp with rfl | hp
  ·cases e
  ·exact phOne_ks (hs := l) h p hp ks' e
 | .sl ks :: l, h => fun p hp ks' e => by
  simp only [phOne, bAnd] at h; rcases mCo.1 hp with rfl | hp
  ·cases e; rfl
  ·exact absurd e (phOne_rest h.2 p hp ks')
theorem phOne_one : ∀ {hs : List Ph}, phOne hs = true -> (hs.filter fun p => match p with | .sh _ => false | .sl _ => true).length = 1
 | [], h => by cases h
 | .sh _ :: l, h => by
  have := phOne_one (hs := l) h
  simpa using this
 | .sl ks :: l, h => by
  simp only [phOne, bAnd] at h
  have : l.filter (fun p => match p with | .sh _ => false | .sl _ => true) = [] := by
   rw [List.filter_eq_nil_iff]; intro q hq; cases q with
   | sh _ => simp
   | sl ks' => exact (phOne_rest h.2 _ hq ks' rfl).elim
  simp [this]
def expBoxes (fs : Fs) (hp : Hp) : List (Nat × Bx) -> Bool
 | [] => true
 | (k, b) :: l => (match hp.at k with
  | some ⟨r, c⟩ => (r || !b.live) && b.fit fs (fun i => .var i) id hp.n c
  | none => false) && expBoxes fs hp l
def wantEnd (P : Program) (fn : Func) (want : List SV) (bs : List (Nat × Bx)) (r : Rs) : Bool :=
 match r.x with
 | .exit _ => false
 | _ => match resultsS P r.st fn.results.toList with
  | some vs => SV.fitL r.st.facts (fun i => .var i) id r.st.hp.n want vs && expBoxes r.st.facts r.st.hp bs
  | none => false
theorem envSub_var (ρ : Env) : envSub ρ (fun i => .var i) = ρ := rfl
theorem expBoxes_spec {ρ : Env} {w0 : World} {M : Nat -> Prop} {β : Bm} {hp : Hp} {fs : Fs} (hh : Heap ρ w0 M β hp w) (hf : FsOk ρ fs) : ∀ {l : List (Nat × Bx)}, expBoxes fs hp l = true ->
  ∀ p ∈ l, p.2.lies ρ β (β p.1) w /\ p.1 < hp.n /\ (p.2.live = true -> M (β p.1).1 \/ w0.heap.size <= (β p.1).1)
 | [], _ => fun p hp => by cases hp
 | (k, b) :: l, h => fun p hpm => by
  simp only [expBoxes, bAnd] at h; rcases mCo.1 hpm with rfl | hpm
  ·have h1 := h.1
   split at h1
   ·rename_i r c hk
    simp only [bAnd, bOr, Bool.not_eq_true'] at h1; obtain ⟨s1, s2, s3, s4⟩ := Bx.fit_spec (β := β) (m := hp.n) (w := w) hf h1.2; rw [envSub_var] at s1; refine ⟨s1 _ (hh.lies k _ hk), Hp.at_lt hk, fun hv => ?_⟩
    rcases h1.1 with hr | hr
    ·subst hr; exact hh.mine k _ hk rfl (s3 hv)
    ·simp only at hv; rw [hr] at hv; cases hv
   ·cases h1
  ·exact expBoxes_spec hh hf h.2 p hpm
theorem wantEnd_spec {ρ ρ' : Env} {w0 w' : World} {M : Nat -> Prop} {gl : Gl} {β : Bm} {fn : Func} {want : List SV} {bs : List (Nat × Bx)} {K : Nat} (hρ : SameK K ρ ρ') (hw : SV.uptos K want = true) {r : Rs} {a : Act} (hst : Conc ρ' w0 M gl β r.st a w') (he : wantEnd P fn want bs r = true) :
  (∀ id, r.x ≠ .exit id) /\ ∃ vs, resultsS P r.st fn.results.toList = some vs /\ (packS vs).ev ρ' β = packV (SV.evs ρ β want) /\ SV.oks ρ' r.st.hp.n want /\ (∀ p ∈ bs, p.2.lies ρ' β (β p.1) w' /\ (p.2.live = true -> M (β p.1).1 \/ w0.heap.size <= (β p.1).1)) /\ Kept w0 M w' := by
 obtain ⟨x, st⟩ := r
 have main : ∀ vs, resultsS P st fn.results.toList = some vs -> (SV.fitL st.facts (fun i => .var i) id st.hp.n want vs && expBoxes st.facts st.hp bs) = true ->
   (packS vs).ev ρ' β = packV (SV.evs ρ β want) /\ SV.oks ρ' st.hp.n want /\ (∀ p ∈ bs, p.2.lies ρ' β (β p.1) w' /\ (p.2.live = true -> M (β p.1).1 \/ w0.heap.size <= (β p.1).1)) /\ Kept w0 M w' := fun vs hvs hb => by
  rw [bAnd] at hb; obtain ⟨f1, f2⟩ := SV.fitL_spec (β := β) (m := st.hp.n) hst.facts _ _ hb.1; rw [envSub_var] at f1 f2; have hok := (resultsS_run hst hvs).2; refine ⟨?_, f2 hok, fun p hp => ?_, hst.heap.kept⟩
  ·rw [(packS_spec (β := β) vs hok).1, f1, SV.evs_same hρ want hw]
   rfl
  ·obtain ⟨q1, q2, q3⟩ := expBoxes_spec hst.heap hst.facts hb.2 p hp
   exact ⟨q1, q3⟩
 unfold wantEnd at he; cases x with
 | exit id => cases he
 | normal =>
  simp only at he; split at he
  ·rename_i vs hvs
   exact ⟨fun id h => Ex.noConfusion h, vs, hvs, main vs hvs he⟩
  ·cases he
 | ret =>
  simp only at he; split at he
  ·rename_i vs hvs
   exact ⟨fun id h => Ex.noConfusion h, vs, hvs, main vs hvs he⟩
  ·cases he
theorem lawEnd_spec {ρ' : Env} {w0 w' : World} {gl : Gl} {β : Bm} {fn : Func} {r : Rs} {a : Act} (hst : Conc ρ' w0 (fun _ => False) gl β r.st a w') (he : lawEnd P fn r = true) :
  (∀ id, r.x ≠ .exit id) /\ ∃ vs, resultsS P r.st fn.results.toList = some vs /\ (Ending.returned ((packS vs).ev ρ' β) = .returned (.bool true) /\ Below w0.heap.size w0 w') := by
 obtain ⟨x, st⟩ := r
 have main : ∀ vs, resultsS P st fn.results.toList = some vs -> (isTrueF ⟨packS vs, st.hp, st.facts⟩ || absurdB st.facts st.facts) = true -> (Ending.returned ((packS vs).ev ρ' β) = .returned (.bool true) /\ Below w0.heap.size w0 w') := fun vs hvs ht => by
  rw [bOr] at ht; rcases ht with ht | ht
  ·have := isTrueF_spec (o := ⟨packS vs, st.hp, st.facts⟩) hst.facts ht β
   simp only at this; exact ⟨by rw [this], hst.heap.kept.to_below⟩
  ·exact (absurdB_spec hst.facts ht).elim
 unfold lawEnd at he; cases x with
 | exit id => cases he
 | normal =>
  simp only at he; split at he
  ·rename_i vs hvs
   exact ⟨fun id h => Ex.noConfusion h, vs, hvs, main vs hvs he⟩
  ·cases he
 | ret =>
  simp only at he; split at he
  ·rename_i vs hvs
   exact ⟨fun id h => Ex.noConfusion h, vs, hvs, main vs hvs he⟩
  ·cases he
theorem fn_arr {R : Ending -> World -> Prop} {call : Caller} {keep : Nat -> List Nat} {fuel : Nat} {cuts : List CutR} {endOk : Rs -> Bool} {C : Code} {b off len cap : Nat} {A : Nat -> Nat -> Int -> Int} (tabs : Tabs) (hd : (tabs.map (·.1)).Nodup) (ht : TabsIn tabs w) (hm : P.follows .mixedOrders = true) (F : Mng)
  {f : FuncId} {fn : Func} (hfn : P.funcs[f]? = some fn) (hbd : fn.body = some C) {hs : List Ph} (h1 : phOne hs = true) (h : ArrIn w (phKs hs) b off len cap A) {ns : List Int} (hns : phFits hs ns) (hlen : ns.length = phSize hs) {rk : Nat} {p : Fs} (hp : FsOk (envA F (ns ++ [(len : Int), (cap : Int)]) A) p)
  (hc : ∀ ρ', SameK (phSize hs + 2) (envA F (ns ++ [(len : Int), (cap : Int)]) A) ρ' -> CallOk P ρ' w (fun _ => False) (tabGl tabs 0) call)
  (hrule : ∀ ρ', SameK (phSize hs + 2) (envA F (ns ++ [(len : Int), (cap : Int)]) A) ρ' -> ∀ c ∈ cuts, ∀ t ∈ c.ts, ∀ r ∈ t.rs, RuleOk ρ' r)
  (hr : ∀ c ∈ cuts, ∀ t ∈ c.ts, ∃ ct : CT, ∀ g, ct.all fun p => roundOkR P (tabGl tabs 0) call keep fuel cuts endOk (phSize hs + 2) C p c t g = true) {rs0 : List Rule} (hr0 : ∀ r ∈ rs0, RuleOk (envA F (ns ++ [(len : Int), (cap : Int)]) A) r)
  (he : (execP P (tabGl tabs 0) call keep fuel C (entrySt fn (phArgs tabs.length (phSize hs) none hs 0) (arrHp tabs (phKs hs) (phSize hs)) (p ++ (lenU (phSize hs) ++ phFacts hs 0)))).all (leafOkR (tabGl tabs 0) cuts endOk (phSize hs + 2) rs0 rk) = true)
  (hend : ∀ ρ' (β' : Bm) (r : Rs) (a : Act) (w' : World), SameK (phSize hs + 2) (envA F (ns ++ [(len : Int), (cap : Int)]) A) ρ' -> Conc ρ' w (fun _ => False) (tabGl tabs 0) β' r.st a w' -> endOk r = true -> (∀ id, r.x ≠ .exit id) /\ ∃ vs, resultsS P r.st fn.results.toList = some vs /\ R (.returned ((packS vs).ev ρ' β')) w') :
  Calls P f (phVals hs ns [.slice (some ⟨b, off, none⟩) len cap]).toArray w R := by
 have hv1 : (ns ++ [(len : Int), (cap : Int)]).getD (phSize hs) 0 = len := by rw [<- hlen]; simp
 have hv2 : (ns ++ [(len : Int), (cap : Int)]).getD (phSize hs + 1) 0 = cap := by rw [<- hlen]; simp
 obtain ⟨a1, a2⟩ := ph_append (hs := hs) (ms := [(len : Int), (cap : Int)]) (ss := [.slice (some ⟨b, off, none⟩) len cap]) hlen; have hf := a2.2 hns; obtain ⟨s1, s2, s3, s4, s5⟩ := arr_start tabs hd ht h F (ns ++ [(len : Int), (cap : Int)]) (m := phSize hs) hv1 hv2
 obtain ⟨p1, p2⟩ := phArgs_spec (F := F) (A := A) (n := tabs.length + 1) (k := tabs.length) (m := phSize hs) (raw := none) (ks := phKs hs) s5 s4 (hs := hs) (i := 0) (ss := [.slice (some ⟨b, off, none⟩) len cap]) hf (phOne_ks h1) (fun j hj => by
  have e1 := phOne_one h1; have : j < 1 := e1 ▸ hj; obtain rfl : j = 0 := by omega
  rfl)
 rw [List.drop_zero, a1] at p1; rw [<- p1]; exact fn_run hc hm hfn hbd s1 s2 (fsOk_app hp (fsOk_app s3 (phFacts_ok hf))) p2 hrule hr hr0 he hend
theorem fn_arr_val {call : Caller} {keep : Nat -> List Nat} {fuel : Nat} {cuts : List CutR} {C : Code} {b off len cap : Nat} {A : Nat -> Nat -> Int -> Int} (tabs : Tabs) (hd : (tabs.map (·.1)).Nodup) (ht : TabsIn tabs w) (hm : P.follows .mixedOrders = true) (F : Mng)
  {f : FuncId} {fn : Func} (hfn : P.funcs[f]? = some fn) (hbd : fn.body = some C) {hs : List Ph} (h1 : phOne hs = true) (h : ArrIn w (phKs hs) b off len cap A) {ns : List Int} (hns : phFits hs ns) (hlen : ns.length = phSize hs) {rk : Nat} {p : Fs} (hp : FsOk (envA F (ns ++ [(len : Int), (cap : Int)]) A) p)
  {want : List SV} (hw : SV.uptos (phSize hs + 2) want = true) (hfl : SV.flats want = true)
  (hc : ∀ ρ', SameK (phSize hs + 2) (envA F (ns ++ [(len : Int), (cap : Int)]) A) ρ' -> CallOk P ρ' w (fun _ => False) (tabGl tabs 0) call)
  (hrule : ∀ ρ', SameK (phSize hs + 2) (envA F (ns ++ [(len : Int), (cap : Int)]) A) ρ' -> ∀ c ∈ cuts, ∀ t ∈ c.ts, ∀ r ∈ t.rs, RuleOk ρ' r)
  (hr : ∀ c ∈ cuts, ∀ t ∈ c.ts, ∃ ct : CT, ∀ g, ct.all fun p => roundOkR P (tabGl tabs 0) call keep fuel cuts (wantEnd P fn want []) (phSize hs + 2) C p c t g = true) {rs0 : List Rule} (hr0 : ∀ r ∈ rs0, RuleOk (envA F (ns ++ [(len : Int), (cap : Int)]) A) r)
  (he : (execP P (tabGl tabs 0) call keep fuel C (entrySt fn (phArgs tabs.length (phSize hs) none hs 0) (arrHp tabs (phKs hs) (phSize hs)) (p ++ (lenU (phSize hs) ++ phFacts hs 0)))).all (leafOkR (tabGl tabs 0) cuts (wantEnd P fn want []) (phSize hs + 2) rs0 rk) = true) :
  Calls P f (phVals hs ns [.slice (some ⟨b, off, none⟩) len cap]).toArray w fun e w' => e = .returned (packV (SV.evs (envA F (ns ++ [(len : Int), (cap : Int)]) A) β0 want)) /\ Below w.heap.size w w' :=
 fn_arr tabs hd ht hm F hfn hbd h1 h hns hlen hp hc hrule hr hr0 he fun ρ' β' r a w' hρ hst hend => by
  obtain ⟨q1, vs, q2, q3, _, _, q6⟩ := wantEnd_spec hρ hw hst hend; exact ⟨q1, vs, q2, by rw [q3, SV.evs_flat β' β0 want hfl], q6.to_below⟩
theorem cells_same {K : Nat} {ρ ρ' : Env} (hρ : SameK K ρ ρ') {c : List SV} (hc : SV.uptos K c = true) {ty t : Nat} {β : Bm} {bv : Nat × Nat} {w : World} (h : (Bx.cells c ty t).lies ρ' β bv w) : (Bx.cells c ty t).lies ρ β bv w := by
 cases t with
 | zero => simp only [Bx.lies] at *; rw [<- SV.evs_same hρ c hc]; exact h
 | succ s => simp only [Bx.lies] at *; rw [<- SV.evs_same hρ c hc]; exact h
theorem fn_arr_new {call : Caller} {keep : Nat -> List Nat} {fuel : Nat} {cuts : List CutR} {C : Code} {b off len cap : Nat} {A : Nat -> Nat -> Int -> Int} (tabs : Tabs) (hd : (tabs.map (·.1)).Nodup) (ht : TabsIn tabs w) (hm : P.follows .mixedOrders = true) (F : Mng)
  {f : FuncId} {fn : Func} (hfn : P.funcs[f]? = some fn) (hbd : fn.body = some C) {hs : List Ph} (h1 : phOne hs = true) (h : ArrIn w (phKs hs) b off len cap A) {ns : List Int} (hns : phFits hs ns) (hlen : ns.length = phSize hs) {rk : Nat} {p : Fs} (hp : FsOk (envA F (ns ++ [(len : Int), (cap : Int)]) A) p)
  {want : List SV} (hw : SV.uptos (phSize hs + 2) want = true) {k ty tl : Nat} {cs : List SV} (hcs : SV.uptos (phSize hs + 2) cs = true)
  (hc : ∀ ρ', SameK (phSize hs + 2) (envA F (ns ++ [(len : Int), (cap : Int)]) A) ρ' -> CallOk P ρ' w (fun _ => False) (tabGl tabs 0) call)
  (hrule : ∀ ρ', SameK (phSize hs + 2) (envA F (ns ++ [(len : Int), (cap : Int)]) A) ρ' -> ∀ c ∈ cuts, ∀ t ∈ c.ts, ∀ r ∈ t.rs, RuleOk ρ' r)
  (hr : ∀ c ∈ cuts, ∀ t ∈ c.ts, ∃ ct : CT, ∀ g, ct.all fun p => roundOkR P (tabGl tabs 0) call keep fuel cuts (wantEnd P fn want [(k, .cells cs ty tl)]) (phSize hs + 2) C p c t g = true) {rs0 : List Rule} (hr0 : ∀ r ∈ rs0, RuleOk (envA F (ns ++ [(len : Int), (cap : Int)]) A) r)
  (he : (execP P (tabGl tabs 0) call keep fuel C (entrySt fn (phArgs tabs.length (phSize hs) none hs 0) (arrHp tabs (phKs hs) (phSize hs)) (p ++ (lenU (phSize hs) ++ phFacts hs 0)))).all (leafOkR (tabGl tabs 0) cuts (wantEnd P fn want [(k, .cells cs ty tl)]) (phSize hs + 2) rs0 rk) = true) :
  Calls P f (phVals hs ns [.slice (some ⟨b, off, none⟩) len cap]).toArray w fun e w' => ∃ β' : Bm, e = .returned (packV (SV.evs (envA F (ns ++ [(len : Int), (cap : Int)]) A) β' want)) /\ (Bx.cells cs ty tl).lies (envA F (ns ++ [(len : Int), (cap : Int)]) A) β' (β' k) w' /\ w.heap.size <= (β' k).1 /\ Below w.heap.size w w' :=
 fn_arr tabs hd ht hm F hfn hbd h1 h hns hlen hp hc hrule hr hr0 he fun ρ' β' r a w' hρ hst hend => by
  obtain ⟨q1, vs, q2, q3, _, q5, q6⟩ := wantEnd_spec hρ hw hst hend; obtain ⟨l1, l2⟩ := q5 _ (lHd ..); refine ⟨q1, vs, q2, β', by rw [q3], cells_same hρ hcs l1, ?_, q6.to_below⟩
  rcases l2 rfl with h | h
  ·exact h.elim
  ·exact h
end
section
variable {P : Program} {w : World}
end
structure TmN where
 τ : Tm
 m1 : E
 m2 : E
 m3 : E
 rs : List Rule
structure CutN where
 p : Path
 ts : List TmN
def ltF (fs : Fs) (a b : E) : Bool := decideE fs (.bin .lt .i64 a b) == some true
def lexF (fs : Fs) (σ : Nat -> E) (t' t : TmN) : Bool := ltF fs (t'.m1.sub σ) t.m1 || (eqF fs (t'.m1.sub σ) t.m1 && (ltF fs (t'.m2.sub σ) t.m2 || (eqF fs (t'.m2.sub σ) t.m2 && ltF fs (t'.m3.sub σ) t.m3)))
def nonnegF (fs : Fs) (e : E) : Bool := decideE fs (.bin .lt .i64 e (.lit 0)) == some false
def SV.quick : SV -> SV -> Bool
 | .int _ (.lit a), .int _ (.lit b) => decide (a = b)
 | .slice _ _ l _, .slice _ _ m _ => Nat.beq l m
 | .slice _ _ _ _, .raw _ => false
 | .raw _, .slice _ _ _ _ => false
 | _, _ => true
def Tm.quick (τ : Tm) (st : St) : Bool :=
 match τ.live with
 | (i, s) :: (j, t) :: _ => SV.quick s (st.tmps i) && SV.quick t (st.tmps j)
 | _ => true
def stepN (P : Program) (gl : Gl) (call : Caller) (keep : Nat -> List Nat) (fuel : Nat) (C : Code) (p : Path) (b : Code) (st : St) : T Sp :=
 (execP P gl call keep fuel b st).bind fun s => match s with
  | .loop p' st' => .ok (.loop (p ++ 0 :: p') st')
  | .done r => match r.x with
   | .normal => .ok (.loop p r.st)
   | _ => resumeP P gl call keep fuel C p r
def leafOkN (gl : Gl) (cuts : List CutN) (endOk : Rs -> Bool) (K : Nat) (rs : List Rule) (less : Fs -> (Nat -> E) -> TmN -> Bool) : Sp -> Bool
 | .done r => endOk ⟨r.x, withR rs r.st⟩ || noWay (addRules r.st.facts rs)
 | .loop p st => (cuts.any fun c => (c.p == p) && c.ts.any fun t => t.τ.quick st && fitR gl K t.τ (withR rs st) && less (withR rs st).facts (t.τ.solve (withR rs st)) t) || noWay (addRules st.facts rs)
def roundOkN (P : Program) (gl : Gl) (call : Caller) (keep : Nat -> List Nat) (fuel : Nat) (cuts : List CutN) (endOk : Rs -> Bool) (K : Nat) (C : Code) (p : Fs) (c : CutN) (t : TmN) (g : Nat -> Value) : Bool :=
 match bodyAt C c.p with
 | some b => (nonnegF (t.τ.stP g p).facts t.m1 && nonnegF (t.τ.stP g p).facts t.m2 && nonnegF (t.τ.stP g p).facts t.m3) && (stepN P gl call keep fuel C c.p b (t.τ.stP g p)).all (leafOkN gl cuts endOk K t.rs (fun fs σ t' => lexF fs σ t' t))
 | none => false
section
variable {P : Program} {ρ : Env} {w0 : World} {M : Nat -> Prop} {gl : Gl} {call : Caller} {keep : Nat -> List Nat} {fuel : Nat} {cuts : List CutN} {endOk : Rs -> Bool} {C : Code} {Q : Exit -> Act -> World -> Prop} {K : Nat}
theorem bodyAt_in : ∀ (C : Code) (p : Path) {b : Code} (p' : Path), bodyAt C p = some b -> bodyAt C (p ++ 0 :: p') = bodyAt b p'
 | .seq x y, i :: p, b, p', h => by
  unfold bodyAt at h; show bodyAt (.seq x y) (i :: (p ++ 0 :: p')) = _; rw [show bodyAt (.seq x y) (i :: (p ++ 0 :: p')) = if i = 0 then bodyAt x (p ++ 0 :: p') else bodyAt y (p ++ 0 :: p') from rfl]
  split at h
  ·rename_i hi; rw [if_pos hi]; exact bodyAt_in x p p' h
  ·rename_i hi; rw [if_neg hi]; exact bodyAt_in y p p' h
 | .cond c x y, i :: p, b, p', h => by
  unfold bodyAt at h; rw [show bodyAt (.cond c x y) (i :: p ++ 0 :: p') = if i = 0 then bodyAt x (p ++ 0 :: p') else bodyAt y (p ++ 0 :: p') from rfl]
  split at h
  ·rename_i hi; rw [if_pos hi]; exact bodyAt_in x p p' h
  ·rename_i hi; rw [if_neg hi]; exact bodyAt_in y p p' h
 | .block id c, _ :: p, b, p', h => bodyAt_in c p p' h
 | .scope c, _ :: p, b, p', h => bodyAt_in c p p' h
 | .loop c, _ :: p, b, p', h => bodyAt_in c p p' h
 | .loop c, [], b, p', h => by
  simp only [bodyAt, sEq] at h; subst h; rfl
 | .seq _ _, [], _, _, h => by cases h
 | .cond _ _ _, [], _, _, h => by cases h
 | .block _ _, [], _, _, h => by cases h
 | .scope _, [], _, _, h => by cases h
 | .skip, _, _, _, h => by simp [bodyAt] at h
 | .label _, _, _, _, h => by simp [bodyAt] at h
 | .exit _, _, _, _, h => by simp [bodyAt] at h
 | .ret, _, _, _, h => by simp [bodyAt] at h
 | .region _ _ _, _, _, _, h => by simp [bodyAt] at h
 | .rangeFunc _ _ _ _, _, _, _, h => by simp [bodyAt] at h
 | .goto _, _, _, _, h => by simp [bodyAt] at h
 | .refuse _, _, _, _, h => by simp [bodyAt] at h
theorem postAt_in : ∀ (C : Code) (p : Path) {b : Code} (p' : Path) (Q : Exit -> Act -> World -> Prop), bodyAt C p = some b -> postAt P C (p ++ 0 :: p') Q = postAt P b p' (Exit.then (More P b (postAt P C p Q)) (postAt P C p Q))
 | .seq x y, i :: p, b, p', Q, h => by
  unfold bodyAt at h
  by_cases hi : i = 0
  ·rw [if_pos hi] at h
   have := postAt_in x p p' (Exit.then (y.wp P Q) Q) h; simp only [List.cons_append, postAt, if_pos hi, this]
  ·rw [if_neg hi] at h
   have := postAt_in y p p' Q h; simp only [List.cons_append, postAt, if_neg hi, this]
 | .cond c x y, i :: p, b, p', Q, h => by
  unfold bodyAt at h
  by_cases hi : i = 0
  ·rw [if_pos hi] at h
   have := postAt_in x p p' Q h; simp only [List.cons_append, postAt, if_pos hi, this]
  ·rw [if_neg hi] at h
   have := postAt_in y p p' Q h; simp only [List.cons_append, postAt, if_neg hi, this]
 | .block id c, _ :: p, b, p', Q, h => postAt_in c p p' (Exit.inBlock id Q) h
 | .scope c, _ :: p, b, p', Q, h => postAt_in c p p' (Exit.noGoto Q) h
 | .loop c, _ :: p, b, p', Q, h => postAt_in c p p' (Exit.then (More P c Q) Q) h
 | .loop c, [], b, p', Q, h => by
  simp only [bodyAt, sEq] at h; subst h; rfl
 | .seq _ _, [], _, _, _, h => by cases h
 | .cond _ _ _, [], _, _, _, h => by cases h
 | .block _ _, [], _, _, _, h => by cases h
 | .scope _, [], _, _, _, h => by cases h
 | .skip, _, _, _, _, h => by simp [bodyAt] at h
 | .label _, _, _, _, _, h => by simp [bodyAt] at h
 | .exit _, _, _, _, _, h => by simp [bodyAt] at h
 | .ret, _, _, _, _, h => by simp [bodyAt] at h
 | .region _ _ _, _, _, _, _, h => by simp [bodyAt] at h
 | .rangeFunc _ _ _ _, _, _, _, _, h => by simp [bodyAt] at h
 | .goto _, _, _, _, _, h => by simp [bodyAt] at h
 | .refuse _, _, _, _, _, h => by simp [bodyAt] at h
def mea3 (ρ : Env) (t : TmN) : Nat × Nat × Nat := ((t.m1.ev ρ).toNat, (t.m2.ev ρ).toNat, (t.m3.ev ρ).toNat)
abbrev Lex3 : Nat × Nat × Nat -> Nat × Nat × Nat -> Prop := Prod.Lex (· < ·) (Prod.Lex (· < ·) (· < ·))
theorem lex3_wf : WellFounded Lex3 := (Prod.lex ⟨_, Nat.lt_wfRel.wf⟩ (Prod.lex ⟨_, Nat.lt_wfRel.wf⟩ ⟨_, Nat.lt_wfRel.wf⟩)).wf
theorem ltF_spec {fs : Fs} (hf : FsOk ρ fs) {a b : E} (h : ltF fs a b = true) : a.ev ρ < b.ev ρ := lt_of_decide hf (by unfold ltF at h; simpa using h)
theorem nonnegF_spec {fs : Fs} (hf : FsOk ρ fs) {a : E} (h : nonnegF fs a = true) : 0 <= a.ev ρ := ge_of_decide (b := .lit 0) hf (by unfold nonnegF at h; simpa using h)
theorem lexF_spec {fs : Fs} (hf : FsOk ρ fs) {σ : Nat -> E} {t' t : TmN} (h : lexF fs σ t' t = true) (h1 : 0 <= t'.m1.ev (envSub ρ σ)) (h2 : 0 <= t'.m2.ev (envSub ρ σ)) (h3 : 0 <= t'.m3.ev (envSub ρ σ)) : Lex3 (mea3 (envSub ρ σ) t') (mea3 ρ t) := by
 simp only [lexF, bOr, bAnd] at h; unfold mea3; rcases h with h | ⟨h, h'⟩
 ·have := ltF_spec hf h
  rw [E.sub_ev] at this; exact .left _ _ (by omega)
 ·have e1 := eqF_spec hf h
  rw [E.sub_ev] at e1; rw [e1]; refine .right _ ?_; rcases h' with h' | ⟨h', h''⟩
  ·have := ltF_spec hf h'
   rw [E.sub_ev] at this; exact .left _ _ (by omega)
  ·have e2 := eqF_spec hf h'
   rw [E.sub_ev] at e2; rw [e2]; refine .right _ ?_; have := ltF_spec hf h''; rw [E.sub_ev] at this; omega
theorem loopsN_run {ax : Fs} (hax : ∀ ρ', SameK K ρ ρ' -> FsOk ρ' ax) (hc : ∀ ρ', SameK K ρ ρ' -> CallOk P ρ' w0 M gl call) (hm : P.follows .mixedOrders = true)
  (hend : ∀ ρ' (β : Bm) (r : Rs) (a : Act) (w : World), SameK K ρ ρ' -> Conc ρ' w0 M gl β r.st a w -> endOk r = true -> Q r.x.to a w)
  (hrule : ∀ ρ', SameK K ρ ρ' -> ∀ c ∈ cuts, ∀ t ∈ c.ts, ∀ r ∈ t.rs, RuleOk ρ' r)
  (hr : ∀ c ∈ cuts, ∀ t ∈ c.ts, ∃ ct : CT, ∀ g, ct.all fun p => roundOkN P gl call keep fuel cuts endOk K C (p ++ ax) c t g = true) :
  ∀ (m : Nat × Nat × Nat) (ρ' : Env) (β : Bm) (c : CutN) (t : TmN) (g : Nat -> Value) (a : Act) (w : World), SameK K ρ ρ' -> c ∈ cuts -> t ∈ c.ts -> Conc ρ' w0 M gl β (t.τ.st g) a w -> mea3 ρ' t = m -> LoopAt P C c.p Q a w := by
 intro m
 induction m using lex3_wf.induction with
 | _ m ih =>
  intro ρ' β c t g a w hρ hcm ht hst hm'
  -- measures are no negative numbers
  have pos : ∀ (ρ'' : Env) (c : CutN) (t : TmN) (g : Nat -> Value) (β : Bm) (a : Act) (w : World), SameK K ρ ρ'' -> c ∈ cuts -> t ∈ c.ts -> Conc ρ'' w0 M gl β (t.τ.st g) a w -> 0 <= t.m1.ev ρ'' /\ 0 <= t.m2.ev ρ'' /\ 0 <= t.m3.ev ρ'' := fun ρ'' c t g β a w hρ'' hcm ht hst => by
   obtain ⟨ct1, hct1⟩ := hr c hcm t ht; obtain ⟨p1, hp1, h1⟩ := CT.some ρ'' (hct1 g); unfold roundOkN at h1; split at h1
   ·simp only [bAnd] at h1
    have hf : FsOk ρ'' (t.τ.stP g (p1 ++ ax)).facts := fsOk_app (fsOk_app hp1 (hax ρ'' hρ'')) hst.facts; exact ⟨nonnegF_spec hf h1.1.1.1, nonnegF_spec hf h1.1.1.2, nonnegF_spec hf h1.1.2⟩
   ·cases h1
  -- on from a place where a template fits
  have go : ∀ (β' : Bm) (p : Path) (st' : St) (a' : Act) (w' : World), Conc ρ' w0 M gl β' st' a' w' -> leafOkN gl cuts endOk K t.rs (fun fs σ t' => lexF fs σ t' t) (.loop p st') = true -> LoopAt P C p Q a' w' := fun β' p st' a' w' hc' hs => by
   have hc3 := withR_conc hc' (hrule ρ' hρ c hcm t ht); simp only [leafOkN, bOr] at hs; rcases hs with hs | hs
   rotate_left
   ·exact (noWay_spec hc3.facts hs).elim
   simp only [List.any_eq_true, bAnd] at hs; obtain ⟨c', hcm', hp', t', ht', ⟨_, hfit'⟩, hless⟩ := hs; obtain rfl : c'.p = p := by simpa using hp'
   unfold fitR at hfit'; rw [bAnd] at hfit'; have hc2 := Tm.fit_run hc3 hfit'.1; have hρ2 := hρ.sub hc3.facts hfit'.2; obtain ⟨q1, q2, q3⟩ := pos _ c' t' _ _ a' w' hρ2 hcm' ht' hc2; have hl := lexF_spec hc3.facts hless q1 q2 q3; rw [hm'] at hl; exact ih _ hl _ _ c' t' _ a' w' hρ2 hcm' ht' hc2 rfl
  obtain ⟨ct1, hct1⟩ := hr c hcm t ht; obtain ⟨p1, hp1, h1⟩ := CT.some ρ' (hct1 g)
  replace hst : Conc ρ' w0 M gl β (t.τ.stP g (p1 ++ ax)) a w := hst.facts_to (fsOk_app (fsOk_app hp1 (hax ρ' hρ)) hst.facts)
  unfold roundOkN at h1; split at h1
  rotate_left
  ·cases h1
  rename_i b hb; rw [bAnd] at h1; refine ⟨b, hb, more_step ?_⟩; have h2 := T.all_holds (ρ := ρ') h1.2; unfold stepN at h2; rw [T.holds_bind] at h2; refine execP_run (hc ρ' hρ) hm b β _ a w _ hst (T.holds_mono (fun s hs => ?_) h2)
  cases s with
  | loop p' st' =>
   intro β' a' w' hx hl hss hc'; obtain ⟨b', hb', hw'⟩ := go β' (c.p ++ 0 :: p') st' a' w' hc' hs; rw [bodyAt_in C c.p p' hb] at hb'; rw [postAt_in C c.p p' Q hb] at hw'; exact ⟨b', hb', hw'⟩
  | done r =>
   obtain ⟨x, st'⟩ := r
   have fwd : ∀ x', x' = x -> x' ≠ .normal -> T.holds ρ' (resumeP P gl call keep fuel C c.p ⟨x', st'⟩) (fun s => leafOkN gl cuts endOk K t.rs (fun fs σ t' => lexF fs σ t' t) s = true) -> Ends ρ' w0 M gl β (t.τ.stP g (p1 ++ ax)).hp (Exit.then (More P b (postAt P C c.p Q)) (postAt P C c.p Q)) ⟨x', st'⟩ := fun x' hx' hne hs => by
    intro β' a' w' hx hl hss hc'; have := resumeP_run (hc ρ' hρ) hm C c.p β' ⟨x', st'⟩ a' w' Q hc' (T.holds_mono (fun s' hs' => ?_) hs)
    ·cases x' with
     | normal => exact absurd rfl hne
     | exit id => exact this
     | ret => exact this
    ·cases s' with
     | done r' =>
      intro β2 a2 w2 _ _ _ hc2; have hs2 : (endOk ⟨r'.x, withR t.rs r'.st⟩ || noWay (addRules r'.st.facts t.rs)) = true := hs'
      have hc3 := withR_conc hc2 (hrule ρ' hρ c hcm t ht); rw [bOr] at hs2; rcases hs2 with hs2 | hs2
      ·exact hend ρ' β2 ⟨r'.x, withR t.rs r'.st⟩ a2 w2 hρ hc3 hs2
      ·exact (noWay_spec hc3.facts hs2).elim
     | loop p' st2 => exact fun β2 a2 w2 _ _ _ hc2 => go β2 p' st2 a2 w2 hc2 hs'
   cases x with
   | normal =>
    intro β' a' w' hx hl hss hc'; obtain ⟨b', hb', hw'⟩ := go β' c.p st' a' w' hc' hs; obtain rfl : b = b' := sinj (hb.symm.trans hb'); exact hw'
   | exit id => exact fwd (.exit id) rfl (by intro h; cases h) hs
   | ret => exact fwd .ret rfl (by intro h; cases h) hs
theorem codeN_run {ax : Fs} (hax : ∀ ρ', SameK K ρ ρ' -> FsOk ρ' ax) (hc : ∀ ρ', SameK K ρ ρ' -> CallOk P ρ' w0 M gl call) (hm : P.follows .mixedOrders = true)
  (hend : ∀ ρ' (β : Bm) (r : Rs) (a : Act) (w : World), SameK K ρ ρ' -> Conc ρ' w0 M gl β r.st a w -> endOk r = true -> Q r.x.to a w)
  (hrule : ∀ ρ', SameK K ρ ρ' -> ∀ c ∈ cuts, ∀ t ∈ c.ts, ∀ r ∈ t.rs, RuleOk ρ' r)
  (hr : ∀ c ∈ cuts, ∀ t ∈ c.ts, ∃ ct : CT, ∀ g, ct.all fun p => roundOkN P gl call keep fuel cuts endOk K C (p ++ ax) c t g = true) {rs0 : List Rule} (hr0 : ∀ r ∈ rs0, RuleOk ρ r) {β : Bm} {st : St} {a : Act} {w : World} (hst : Conc ρ w0 M gl β st a w)
  (h : (execP P gl call keep fuel C st).holds ρ fun s => leafOkN gl cuts endOk K rs0 (fun _ _ _ => true) s = true) : C.wp P Q a w := by
 refine execP_run (hc ρ (SameK.refl ρ)) hm C β st a w Q hst (T.holds_mono (fun s hs => ?_) h)
 cases s with
 | done r =>
  intro β2 a2 w2 _ _ _ hc2; have hs2 : (endOk ⟨r.x, withR rs0 r.st⟩ || noWay (addRules r.st.facts rs0)) = true := hs
  have hc3 := withR_conc hc2 hr0; rw [bOr] at hs2; rcases hs2 with hs2 | hs2
  ·exact hend ρ β2 ⟨r.x, withR rs0 r.st⟩ a2 w2 (SameK.refl ρ) hc3 hs2
  ·exact (noWay_spec hc3.facts hs2).elim
 | loop p st' =>
  intro β2 a2 w2 _ _ _ hc2; have hc3 := withR_conc hc2 hr0; simp only [leafOkN, bOr] at hs; rcases hs with hs | hs
  rotate_left
  ·exact (noWay_spec hc3.facts hs).elim
  simp only [List.any_eq_true, bAnd] at hs; obtain ⟨c', hcm', hp', t', ht', ⟨_, hfit'⟩, _⟩ := hs; obtain rfl : c'.p = p := by simpa using hp'
  unfold fitR at hfit'; rw [bAnd] at hfit'; exact loopsN_run hax hc hm hend hrule hr _ _ _ c' t' _ a2 w2 ((SameK.refl ρ).sub hc3.facts hfit'.2) hcm' ht' (Tm.fit_run hc3 hfit'.1) rfl
theorem fn_runN {ax : Fs} (hax : ∀ ρ', SameK K ρ ρ' -> FsOk ρ' ax) {R : Ending -> World -> Prop} {w : World} {β : Bm} {hp : Hp} (hc : ∀ ρ', SameK K ρ ρ' -> CallOk P ρ' w0 M gl call) (hm : P.follows .mixedOrders = true) {f : FuncId} {fn : Func} (hfn : P.funcs[f]? = some fn) (hbd : fn.body = some C) {args : List SV} {fs0 : Fs} (hh : Heap ρ w0 M β hp w) (hg : GlOk gl β hp.n) (hfs : FsOk ρ fs0)
  (hargs : SV.oks ρ hp.n args)
  (hrule : ∀ ρ', SameK K ρ ρ' -> ∀ c ∈ cuts, ∀ t ∈ c.ts, ∀ r ∈ t.rs, RuleOk ρ' r)
  (hr : ∀ c ∈ cuts, ∀ t ∈ c.ts, ∃ ct : CT, ∀ g, ct.all fun p => roundOkN P gl call keep fuel cuts endOk K C (p ++ ax) c t g = true) {rs0 : List Rule} (hr0 : ∀ r ∈ rs0, RuleOk ρ r)
  (h : (execP P gl call keep fuel C (entrySt fn args hp fs0)).all (leafOkN gl cuts endOk K rs0 (fun _ _ _ => true)) = true)
  (hend : ∀ ρ' (β' : Bm) (r : Rs) (a : Act) (w' : World), SameK K ρ ρ' -> Conc ρ' w0 M gl β' r.st a w' -> endOk r = true -> (∀ id, r.x ≠ .exit id) /\ ∃ vs, resultsS P r.st fn.results.toList = some vs /\ R (.returned ((packS vs).ev ρ' β')) w') :
  Calls P f (SV.evs ρ β args).toArray w R := by
 refine calls_of_wp hfn hbd (codeN_run hax hc hm ?_ hrule hr hr0 (entry_conc hh hfs hargs hg) (T.all_holds h)); intro ρ' β' r a w' hρ hst he; obtain ⟨h1, vs, hvs, hR⟩ := hend ρ' β' r a w' hρ hst he; obtain ⟨x, st⟩ := r; obtain ⟨r1, r2⟩ := results_run hst hvs; cases x with
 | exit id => exact absurd rfl (h1 id)
 | normal => exact ⟨hst.defers, _, r1, hR⟩
 | ret => exact ⟨hst.defers, _, r1, hR⟩
end
section
variable {P : Program} {w : World}
theorem pays_arr_cutN {ax : Fs} {call : Caller} {keep : Nat -> List Nat} {fuel : Nat} {cuts : List CutN} {C : Code} {b off len cap : Nat} {A : Nat -> Nat -> Int -> Int} (tabs : Tabs) (hd : (tabs.map (·.1)).Nodup) (ht : TabsIn tabs w) (hm : P.follows .mixedOrders = true) (F : Mng)
  {f : FuncId} {fn : Func} (hfn : P.funcs[f]? = some fn) (hbd : fn.body = some C) {hs : List Ph} (h1 : phOne hs = true) (h : ArrIn w (phKs hs) b off len cap A) {ns : List Int} (hns : phFits hs ns) (hlen : ns.length = phSize hs) {p : Fs} (hp : FsOk (envA F (ns ++ [(len : Int), (cap : Int)]) A) p)
  (hax : FsOk (envA F (ns ++ [(len : Int), (cap : Int)]) A) ax) (hup : (ax.all fun q => q.1.upto (phSize hs + 2)) = true)
  (hc : ∀ ρ', SameK (phSize hs + 2) (envA F (ns ++ [(len : Int), (cap : Int)]) A) ρ' -> CallOk P ρ' w (fun _ => False) (tabGl tabs 0) call)
  (hrule : ∀ ρ', SameK (phSize hs + 2) (envA F (ns ++ [(len : Int), (cap : Int)]) A) ρ' -> ∀ c ∈ cuts, ∀ t ∈ c.ts, ∀ r ∈ t.rs, RuleOk ρ' r)
  (hr : ∀ c ∈ cuts, ∀ t ∈ c.ts, ∃ ct : CT, ∀ g, ct.all fun p => roundOkN P (tabGl tabs 0) call keep fuel cuts (lawEnd P fn) (phSize hs + 2) C (p ++ ax) c t g = true) {rs0 : List Rule} (hr0 : ∀ r ∈ rs0, RuleOk (envA F (ns ++ [(len : Int), (cap : Int)]) A) r)
  (he : (execP P (tabGl tabs 0) call keep fuel C (entrySt fn (phArgs tabs.length (phSize hs) none hs 0) (arrHp tabs (phKs hs) (phSize hs)) ((p ++ ax) ++ (lenU (phSize hs) ++ phFacts hs 0)))).all (leafOkN (tabGl tabs 0) cuts (lawEnd P fn) (phSize hs + 2) rs0 (fun _ _ _ => true)) = true) :
  Calls P f (phVals hs ns [.slice (some ⟨b, off, none⟩) len cap]).toArray w fun e w' => e = .returned (.bool true) /\ Below w.heap.size w w' := by
 have hv1 : (ns ++ [(len : Int), (cap : Int)]).getD (phSize hs) 0 = len := by rw [<- hlen]; simp
 have hv2 : (ns ++ [(len : Int), (cap : Int)]).getD (phSize hs + 1) 0 = cap := by rw [<- hlen]; simp
 obtain ⟨a1, a2⟩ := ph_append (hs := hs) (ms := [(len : Int), (cap : Int)]) (ss := [.slice (some ⟨b, off, none⟩) len cap]) hlen; have hf := a2.2 hns; obtain ⟨s1, s2, s3, s4, s5⟩ := arr_start tabs hd ht h F (ns ++ [(len : Int), (cap : Int)]) (m := phSize hs) hv1 hv2
 obtain ⟨p1, p2⟩ := phArgs_spec (F := F) (A := A) (n := tabs.length + 1) (k := tabs.length) (m := phSize hs) (raw := none) (ks := phKs hs) s5 s4 (hs := hs) (i := 0) (ss := [.slice (some ⟨b, off, none⟩) len cap]) hf (phOne_ks h1) (fun j hj => by
  have e1 := phOne_one h1; have : j < 1 := e1 ▸ hj; obtain rfl : j = 0 := by omega
  rfl)
 rw [List.drop_zero, a1] at p1; rw [<- p1]; refine fn_runN (ax := ax) (fun ρ' hρ q hq => ?_) hc hm hfn hbd s1 s2 (fsOk_app (fsOk_app hp hax) (fsOk_app s3 (phFacts_ok hf))) p2 hrule hr hr0 he fun ρ' β' r a w' hρ hst hend => lawEnd_spec hst hend
 rw [E.ev_same hρ q.1 (lAl.1 hup q hq)]; exact hax q hq
end
def Box.beq (a b : Box) : Bool := (a.rw == b.rw) && Bx.beq a.c b.c
theorem Box.beq_eq {a b : Box} (h : a.beq b = true) : a = b := by
 simp only [Box.beq, bAnd, beq_iff_eq] at h; obtain ⟨r, c⟩ := a; obtain ⟨r', c'⟩ := b; simp only at h; rw [h.1, Bx.beq_eq h.2]
def Hp.ofL (l : List Box) : Hp := ⟨l.length, fun k => l.getD k ⟨false, .gone⟩⟩
def hpBeq (hp : Hp) (l : List Box) : Bool := Nat.beq hp.n l.length && (List.range l.length).all fun k => (hp.box k).beq (l.getD k ⟨false, .gone⟩)
theorem hpBeq_at {hp : Hp} {l : List Box} (h : hpBeq hp l = true) : hp.n = (Hp.ofL l).n /\ ∀ k, hp.at k = (Hp.ofL l).at k := by
 simp only [hpBeq, bAnd, beq_iff, dEq, lAl] at h; refine ⟨h.1, fun k => ?_⟩
 by_cases hk : k < l.length
 ·have e := Box.beq_eq (h.2 k (mRa.2 hk))
  rw [Hp.at_some.2 ⟨by rw [h.1]; exact hk, e⟩]
  exact (Hp.at_some.2 (show k < (Hp.ofL l).n /\ (Hp.ofL l).box k = l.getD k ⟨false, .gone⟩ from ⟨hk, rfl⟩)).symm
 ·have e1 : hp.at k = none := by
   cases hc : hp.at k with
   | none => rfl
   | some b => have := Hp.at_lt hc; omega
  have e2 : (Hp.ofL l).at k = none := by
   cases hc : (Hp.ofL l).at k with
   | none => rfl
   | some b => exact absurd (Hp.at_lt hc) hk
  rw [e1, e2]
section
variable {P : Program} {ρ : Env} {w0 : World} {M : Nat -> Prop} {gl : Gl} {w : World} {β : Bm} {hp hp' : Hp}
theorem Heap.same (h : Heap ρ w0 M β hp w) (hn : hp.n = hp'.n) (ha : ∀ k, hp.at k = hp'.at k) : Heap ρ w0 M β hp' w := by
 obtain ⟨φ, ho⟩ := h.objs; refine ⟨fun k b hk => h.lies k b (by rw [ha]; exact hk), fun j k b b' hj hk => h.inj j k b b' (by rw [ha]; exact hj) (by rw [ha]; exact hk), fun k b hk => h.mine k b (by rw [ha]; exact hk), fun k b hk => by rw [<- hn]; exact h.good k b (by rw [ha]; exact hk), h.kept, fun k b hk => h.arrs k b (by rw [ha]; exact hk), φ, ?_, ?_, ?_⟩
 ·exact fun k b q es hk => ho.has k b q es (by rw [ha]; exact hk)
 ·exact fun k b hk => ho.own k b (by rw [ha]; exact hk)
 ·exact fun j k b b' hj hk => ho.apart j k b b' (by rw [ha]; exact hj) (by rw [ha]; exact hk)
end
structure Memo where
 f : FuncId
 args : List SV
 hp : List Box
 fs : Fs
 v : SV
 out : List Box
def spMemo (m : Memo) : Spc := fun f args hp fs => if f = m.f then (if SV.beqs args m.args && hpBeq hp m.hp && knows fs m.fs then some ⟨m.v, Hp.ofL m.out, fs⟩ else none) else none
def memoSt (o : Out) : St := ⟨1, fun _ => .tuple [o.v, .ptr 0 0], o.hp, o.fs⟩
def Memo.tm (m : Memo) : Tm := ⟨1, [(0, .tuple [m.v, .ptr 0 0])], m.out, []⟩
def Memo.leaf (gl : Gl) (m : Memo) (o : Out) : Bool :=
 m.tm.fit gl (fun i => .var i) (memoSt o) && SV.fit o.fs (fun i => .var i) (m.tm.ren (memoSt o)) m.out.length m.v o.v && (List.range m.hp.length).all fun k => Nat.beq (m.tm.ren (memoSt o) k) k
def Memo.stays (m : Memo) : Bool := Nat.ble m.hp.length m.out.length && Nat.blt 0 m.hp.length && (List.range m.hp.length).all fun k => (m.hp.getD k ⟨false, .gone⟩).rw || (m.hp.getD k ⟨false, .gone⟩).beq (m.out.getD k ⟨false, .gone⟩)
def Memo.ok (P : Program) (gl : Gl) (okF : FuncId -> Bool) (sp : Spc) (keep : FuncId -> Nat -> List Nat) (fuel n : Nat) (m : Memo) : Bool :=
 m.stays && (callG P gl okF sp keep fuel n m.f m.args (Hp.ofL m.hp) m.fs).all (m.leaf gl)
section
variable {P : Program} {ρ : Env} {w0 : World} {M : Nat -> Prop} {gl : Gl}
theorem memo_ok {okF : FuncId -> Bool} {sp : Spc} {keep : FuncId -> Nat -> List Nat} {fuel n : Nat} (hm : P.follows .mixedOrders = true) (hok : ∀ f, okF f = true -> ∀ as w, (callFunc f as).run P w = .ok (.enter f as) w) (hsp : SpecOk P ρ w0 M gl sp) {m : Memo} (h : m.ok P gl okF sp keep fuel n = true) : SpecOk P ρ w0 M gl (spMemo m) := fun f args hp fs o ho β w hh hf ha hg => by
 unfold spMemo at ho; split at ho
 ·rename_i hfe
  subst hfe; split at ho
  ·rename_i hc
   obtain rfl := sinj ho; simp only [bAnd] at hc; obtain ⟨⟨c1, c2⟩, c3⟩ := hc; obtain rfl := SV.beqs_eq _ _ c1; obtain ⟨hn, hat⟩ := hpBeq_at c2; simp only [Memo.ok, bAnd] at h; obtain ⟨h1, h2⟩ := h; simp only [Memo.stays, bAnd, lAl] at h1; obtain ⟨⟨s1, s0⟩, s2⟩ := h1; have s1 := Nat.le_of_ble_eq_true s1; rw [blt_iff, dEq] at s0
   have hh2 := hh.same hn hat; have hnn : hp.n = m.hp.length := hn
   refine ((callG_run (gl := gl) (keep := keep) (fuel := fuel) hm hok hsp n m.f m.args (Hp.ofL m.hp) m.fs β w (fun x w' => ∃ β', Ext hp.n β β' /\ Heap ρ w0 M β' (Hp.ofL m.out) w' /\ m.v.ok ρ m.out.length /\ x = m.v.ev ρ β') hh2 (knows_ok hf c3) (by rw [<- hn]; exact ha) (by rw [<- hn]; exact hg)
    (T.holds_mono (fun o ho β' w' hx hl hst hh' hf' hv => ?_) (T.all_holds h2))).2).mono fun e w' ⟨y, he, β', k1, k2, k3, k4⟩ => ⟨β', k1, by rw [hnn]; exact s1, ?_, k2, hf, k3, by rw [he, k4]⟩
   ·simp only [Memo.leaf, bAnd, lAl] at ho
    obtain ⟨⟨l1, l2⟩, l3⟩ := ho; have hpos : 0 < o.hp.n := Nat.lt_of_lt_of_le s0 hl
    have hconc : Conc ρ w0 M gl β' (memoSt o) ⟨#[(SV.tuple [o.v, .ptr 0 0]).ev ρ β'], []⟩ w' := by
     refine ⟨rfl, fun i hi => ?_, rfl, fun i hi => ⟨hv, hpos, trivial⟩, hh', hf', fun p hp => ?_⟩
     ·have hi : i < 1 := hi
      obtain rfl : i = 0 := by omega
      rfl
     ·obtain ⟨g1, g2⟩ := hg p hp
      have hlt : p.2 < m.hp.length := by rw [<- hnn]; exact g2
      exact ⟨by rw [hx p.2 hlt]; exact g1, Nat.lt_of_lt_of_le hlt hl⟩
    have hfit := Tm.fit_run hconc l1; have hfh := hfit.heap; rw [envSub_var] at hfh; obtain ⟨e1, e2⟩ := SV.fit_spec (β := β') (m := o.hp.n) hf' _ _ l2; rw [envSub_var] at e1 e2; refine ⟨fun k => β' (m.tm.ren (memoSt o) k), fun k hk => ?_, hfh, e2 hv, e1⟩
    have hk' : k < m.hp.length := by rw [<- hnn]; exact hk
    have := l3 k (mRa.2 hk'); rw [beq_iff, dEq] at this; show β' (m.tm.ren (memoSt o) k) = β k; rw [this]; exact hx k hk'
   ·intro j b hj hr
    rw [hat] at hj; have hjl : j < m.hp.length := Hp.at_lt hj; obtain ⟨_, hb⟩ := Hp.at_some.1 hj; have hb : m.hp.getD j ⟨false, .gone⟩ = b := hb; have := s2 j (mRa.2 hjl); rw [bOr, hb] at this; rcases this with h3 | h3
    ·rw [hr] at h3; cases h3
    ·rw [Box.beq_eq h3]
     exact Hp.at_some.2 ⟨by show j < m.out.length; omega, rfl⟩
  ·cases ho
 ·cases ho
end
section
variable {O : Nat -> List Int -> Nat -> (Nat -> Prop) -> World -> Prop} {ρ ρ' : Env} {bs : List Box} {β : Bm} {ψ : Nat -> Nat -> Prop} {w w' w0 : World} {n m : Nat} {M : Nat -> Prop}
theorem ofL_at {l : List Box} {k : Nat} {x : Box} : (Hp.ofL l).at k = some x ↔ l[k]? = some x := by
 rw [Hp.at_some]; show (k < l.length /\ l.getD k ⟨false, .gone⟩ = x) ↔ _; constructor
 ·rintro ⟨h1, h2⟩
  rw [lGe h1]; rw [getD_lt _ _ h1] at h2; rw [h2]
 ·intro h
  obtain ⟨h1, h2⟩ := lSo.1 h; exact ⟨h1, by rw [getD_lt _ _ h1]; exact h2⟩
theorem part_noArr {b : Bx} (h : b.part n m = true) : b.isArr = false := by
 cases b <;> first | rfl | cases h
theorem TLay.heap (h : TLay O ρ bs β ψ w) (hb : bs.all (fun b => b.rw && b.c.part n m) = true) (hO : ∀ (k : Nat) (x : Box) (q : Nat) (es : List E), bs[k]? = some x -> x.c = .obj q es -> ∀ vs b φ w, O q vs b φ w -> Ob q vs b φ w) :
  Heap ρ w (blksT bs β ψ) β (Hp.ofL bs) w := by
 have part : ∀ (k : Nat) (x : Box), bs[k]? = some x -> x.rw = true /\ x.c.part n m = true := fun k x hk => by
  have := lAl.1 hb x (List.mem_of_getElem? hk)
  simpa only [bAnd] using this
 refine ⟨fun k x hk => h.lies k x (ofL_at.1 hk), fun j k x y hj hk => h.inj j k x y (ofL_at.1 hj) (ofL_at.1 hk), fun k x hk _ hv => .inl ⟨k, x, ofL_at.1 hk, .inl ⟨hv, rfl⟩⟩, fun k x hk => h.good k x (ofL_at.1 hk), Kept.refl _ _, fun k x hk ha => ?_, ψ, ?_, ?_, ?_⟩
 ·rw [part_noArr (part k x (ofL_at.1 hk)).2] at ha; cases ha
 ·exact fun k x q es hk e => hO k x q es (ofL_at.1 hk) e _ _ _ _ (h.has k x q es (ofL_at.1 hk) e)
 ·exact fun k x hk hx i hi => .inl ⟨k, x, ofL_at.1 hk, .inr ⟨hx, hi⟩⟩
 ·exact fun j k x y hj hk => h.apart j k x y (ofL_at.1 hj) (ofL_at.1 hk)
theorem Heap.tlay (h : Heap ρ w0 M β (Hp.ofL bs) w) (hb : bs.all (fun b => b.rw && b.c.part n m) = true) (hO : ∀ (k : Nat) (x : Box) (q : Nat) (es : List E), bs[k]? = some x -> x.c = .obj q es -> ∀ vs b φ w, Ob q vs b φ w -> O q vs b φ w) :
  ∃ ψ, TLay O ρ bs β ψ w /\ ∀ i, blksT bs β ψ i -> M i \/ w0.heap.size <= i := by
 obtain ⟨ψ, ho⟩ := h.objs; refine ⟨ψ, ⟨fun k x hk => h.lies k x (ofL_at.2 hk), fun k x hk => h.good k x (ofL_at.2 hk), fun j k x y hj hk => h.inj j k x y (ofL_at.2 hj) (ofL_at.2 hk), fun k x q es hk e => hO k x q es hk e _ _ _ _ (ho.has k x q es (ofL_at.2 hk) e), fun j k x y hj hk => ho.apart j k x y (ofL_at.2 hj) (ofL_at.2 hk)⟩, fun i hi => ?_⟩
 obtain ⟨k, x, hk, h1⟩ := hi; have hp := lAl.1 hb x (List.mem_of_getElem? hk); simp only [bAnd] at hp; rcases h1 with ⟨hv, rfl⟩ | ⟨hv, h1⟩
 ·exact h.mine k x (ofL_at.2 hk) hp.1 hv
 ·exact ho.own k x (ofL_at.2 hk) hv i h1
end
structure Meth where
 f : FuncId
 name : Nat
 ps : List Sh
 rs : List Sh
 sel : Nat -> E × Bool -> Bool
def famTm (a : Fam) : Tm := ⟨1, [(0, .ptr 0 0)], a.bs, []⟩
def famSt (o : Out) : St := ⟨1, fun _ => .ptr 0 0, o.hp, o.fs⟩
def famIds (st : St) : List Box -> Nat -> Bool
 | [], _ => true
 | b :: l, j => (Bx.ren b.c (st.hp.box j).c).all (fun p => Nat.beq p.1 p.2) && famIds st l (j + 1)
def famRen (st : St) (a : Fam) : Rn := bif famIds st a.bs 0 then [] else (renB st a.bs 0 []).filter fun p => !Nat.beq p.1 p.2
def famSol (st : St) (a : Fam) (r : Rn) : Sol := (solveB (rnOf r) st a.bs 0).filter fun p => match p.2.1 with
 | none => !E.beq p.2.2 (.var p.1)
 | some _ => true
def famS (a : Fam) (o : Out) : Nat -> E := let s := famSol (famSt o) a (famRen (famSt o) a); lookE s s
def famP (a : Fam) (o : Out) : Nat -> Nat := rnOf (famRen (famSt o) a)
def injB (π : Nat -> Nat) (n : Nat) : Bool := ((List.range n).all fun j => Nat.beq (π j) j) || oneOne π n
theorem injB_spec {π : Nat -> Nat} {n : Nat} (h : injB π n = true) {j k : Nat} (hj : j < n) (hk : k < n) (e : π j = π k) : j = k := by
 unfold injB at h; rw [bOr] at h; rcases h with h | h
 ·have a := lAl.1 h j (mRa.2 hj)
  have b := lAl.1 h k (mRa.2 hk); rw [beq_iff, dEq] at a b; omega
 ·exact oneOne_spec h hj hk e
section
variable {ρ : Env} {w0 w : World} {M : Nat -> Prop} {β : Bm} {bs : List Box} {σ : Nat -> E} {π : Nat -> Nat} {fs : Fs} {st : St} {φ : Nat -> Nat -> Prop}
theorem lay_box (hB : fitB fs σ π bs.length st bs 0 = true) {k : Nat} {b : Box} (hk : (Hp.ofL bs).at k = some b) : st.hp.at (π k) = some (st.hp.box (π k)) /\ (b.rw = true -> (st.hp.box (π k)).rw = true) /\ Bx.fit fs σ π bs.length b.c (st.hp.box (π k)).c = true := by
 have := fitB_get hB k b (ofL_at.1 hk); rw [Nat.zero_add] at this; exact ⟨Hp.at_some.2 ⟨this.2.2, rfl⟩, this.1, this.2.1⟩
theorem lay_objs (hf : FsOk ρ fs) (hi : injB π bs.length = true) (hB : fitB fs σ π bs.length st bs 0 = true) (ho : ObjsOk ρ w0 M β st.hp φ w) : ObjsOk (envSub ρ σ) w0 M (fun k => β (π k)) (Hp.ofL bs) (fun k => φ (π k)) w := by
 refine ⟨fun k b q es hk e => ?_, fun k b hk hb i hi' => ?_, fun j k b b' hj hk hb hjk i hi' => ?_⟩
 ·obtain ⟨b1, _, b3⟩ := lay_box hB hk
  rw [e] at b3; obtain ⟨es', c1, c2⟩ := Bx.fit_obj hf b3; rw [<- c2]; exact ho.has _ _ q es' b1 c1
 ·obtain ⟨b1, _, b3⟩ := lay_box hB hk
  obtain ⟨q, es, e⟩ := Bx.obj_of hb; rw [e] at b3; obtain ⟨es', c1, c2⟩ := Bx.fit_obj hf b3; exact ho.own _ _ b1 (by rw [c1]; rfl) i hi'
 ·obtain ⟨b1, _, b3⟩ := lay_box hB hj
  obtain ⟨d1, _, d3⟩ := lay_box hB hk; obtain ⟨q, es, e⟩ := Bx.obj_of hb; rw [e] at b3; obtain ⟨es', c1, c2⟩ := Bx.fit_obj hf b3; have := ho.apart _ _ _ _ b1 d1 (by rw [c1]; rfl) (fun he => hjk (injB_spec hi (Hp.at_lt hj) (Hp.at_lt hk) he)) i hi'
  refine ⟨fun hv => this.1 ((Bx.fit_spec (β := β) (w := w) (m := st.hp.n) hf d3).2.2.1 hv), fun hv => ?_⟩
  obtain ⟨q', es2, e'⟩ := Bx.obj_of hv; rw [e'] at d3; obtain ⟨es3, f1, f2⟩ := Bx.fit_obj hf d3; exact this.2 (by rw [f1]; rfl)
theorem lay_fit (hh : Heap ρ w0 M β st.hp w) (hf : FsOk ρ fs) (hi : injB π bs.length = true) (hB : fitB fs σ π bs.length st bs 0 = true) : Heap (envSub ρ σ) w0 M (fun k => β (π k)) (Hp.ofL bs) w := by
 refine ⟨fun k b hk => ?_, fun j k b b' hj hk hb hb' e => ?_, fun k b hk hr hl => ?_, fun k b hk => ?_, hh.kept, fun k b hk ha => ?_, hh.objs.elim fun φ ho => ⟨_, lay_objs hf hi hB ho⟩⟩
 ·obtain ⟨b1, b2, b3⟩ := lay_box hB hk
  exact (Bx.fit_spec (m := st.hp.n) hf b3).1 _ (hh.lies _ _ b1)
 ·obtain ⟨b1, b2, b3⟩ := lay_box hB hj
  obtain ⟨c1, c2, c3⟩ := lay_box hB hk; exact injB_spec hi (Hp.at_lt hj) (Hp.at_lt hk) (hh.inj _ _ _ _ b1 c1 ((Bx.fit_spec (β := β) (w := w) (m := st.hp.n) hf b3).2.2.1 hb) ((Bx.fit_spec (β := β) (w := w) (m := st.hp.n) hf c3).2.2.1 hb') e)
 ·obtain ⟨b1, b2, b3⟩ := lay_box hB hk
  exact hh.mine _ _ b1 (b2 hr) ((Bx.fit_spec (β := β) (w := w) (m := st.hp.n) hf b3).2.2.1 hl)
 ·obtain ⟨b1, b2, b3⟩ := lay_box hB hk
  exact (Bx.fit_spec (β := β) (w := w) hf b3).2.1 (hh.good _ _ b1)
 ·obtain ⟨b1, b2, b3⟩ := lay_box hB hk
  exact hh.arrs _ _ b1 ((Bx.fit_spec (β := β) (w := w) (m := st.hp.n) hf b3).2.2.2 ha)
end
def Meth.tree (call : Caller) (a : Fam) (m : Meth) : T Out := call m.f (.ptr 0 0 :: varShs m.ps a.nv) (Hp.ofL a.bs) ((a.fs ++ (boxRngs a.bs ++ varFacts m.ps a.nv)).filter (m.sel a.nv))
def fitFQ (fs : Fs) (σ : Nat -> E) : Fs -> Bool
 | [] => true
 | (c, b) :: l => (E.beq (c.sub σ) c || decideD fs (c.sub σ) == some b) && fitFQ fs σ l
theorem fitFQ_ok {ρ : Env} {fs : Fs} {σ : Nat -> E} (hf : FsOk ρ fs) : ∀ {l : Fs}, FsOk ρ l -> fitFQ fs σ l = true -> FsOk (envSub ρ σ) l
 | [], _, _ => fun p hp => by cases hp
 | (c, b) :: l, h0, h => by
  simp only [fitFQ, bAnd, bOr, beq_iff_eq] at h; intro p hp; rcases mCo.1 hp with rfl | hp
  ·rw [<- E.sub_ev]
   rcases h.1 with h1 | h1
   ·rw [E.beq_eq _ _ h1]
    exact h0 _ (lHd ..)
   ·have := decideD_spec hf h1
    constructor
    ·intro hn; rw [<- this]; exact decide_eq_true hn
    ·intro hb; rw [show b = true from hb] at this; exact of_decide_eq_true this
  ·exact fitFQ_ok hf (fun q hq => h0 q (lTl _ hq)) h.2 p hp
def famFit (rs : List Rule) (a : Fam) (o : Out) (more : (Nat -> E) -> (Nat -> Nat) -> Bool) : Bool :=
 let so := famSt o
 let fs := addRules o.fs rs
 let r := famRen so a
 let s := famSol so a r
 let σ := lookE s s
 let π := rnOf r
 (injB π a.bs.length && fitB fs σ π a.bs.length so a.bs 0) && (fitFQ fs σ a.fs && Nat.beq (π 0) 0 && more σ π)
theorem famFit_eq (rs : List Rule) (a : Fam) (o : Out) (more : (Nat -> E) -> (Nat -> Nat) -> Bool) : famFit rs a o more = ((injB (famP a o) a.bs.length && fitB (addRules o.fs rs) (famS a o) (famP a o) a.bs.length (famSt o) a.bs 0) && (fitFQ (addRules o.fs rs) (famS a o) a.fs && Nat.beq (famP a o 0) 0 && more (famS a o) (famP a o))) := rfl
def Meth.leaf (kp : Nat) (rs : List Rule) (a : Fam) (m : Meth) (o : Out) : Bool :=
 famFit rs a o fun σ _ => (match leafE m.rs o with | some es => E.frees m.name es | none => false) && ((List.range a.nv).all fun i => (σ i).free m.name) && (List.range kp).all fun i => E.beq (σ i) (.var i)
def T.pickB {α : Type} (ρ : Env) : T α -> Option α
 | .ok a => some a
 | .br c t e => if c.ev ρ ≠ 0 then t.pickB ρ else e.pickB ρ
 | .both t _ => t.pickB ρ
 | .bad _ => none
def Meth.same (a : Fam) (m : Meth) (o o' : Out) : Bool :=
 (match leafE m.rs o, leafE m.rs o' with | some es, some es' => E.beqs es es' | _, _ => false) && E.beqs ((List.range a.nv).map (famS a o)) ((List.range a.nv).map (famS a o'))
def Meth.alike (a : Fam) (m : Meth) : T Out -> T Out -> Bool
 | .ok o, .ok o' => m.same a o o'
 | .br c t e, .br c' t' e' => c.beq c' && Meth.alike a m t t' && Meth.alike a m e e'
 | _, _ => false
def Meth.good (kp : Nat) (rs : List Rule) (a : Fam) (m : Meth) : T Out -> Bool
 | .ok o => m.leaf kp rs a o
 | .br c t e => c.free m.name && m.good kp rs a t && m.good kp rs a e
 | .both t e => m.good kp rs a t && m.good kp rs a e && m.alike a t e
 | .bad _ => false
theorem Meth.alike_pick {m : Meth} {a : Fam} {ρ : Env} : ∀ {t e : T Out} {o o' : Out}, m.alike a t e = true -> t.pickB ρ = some o -> e.pickB ρ = some o' -> m.same a o o' = true
 | .ok o, .ok o', _, _, h, h1, h2 => by
  obtain rfl := sinj h1; obtain rfl := sinj h2; exact h
 | .br c t e, .br c' t' e', _, _, h, h1, h2 => by
  simp only [Meth.alike, bAnd] at h; obtain rfl := E.beq_eq _ _ h.1.1; simp only [T.pickB] at h1 h2; split at h1
  ·rename_i h0; rw [if_pos h0] at h2; exact Meth.alike_pick h.1.2 h1 h2
  ·rename_i h0; rw [if_neg h0] at h2; exact Meth.alike_pick h.2 h1 h2
 | .ok _, .br .., _, _, h, _, _ => by cases h
 | .ok _, .both .., _, _, h, _, _ => by cases h
 | .ok _, .bad _, _, _, h, _, _ => by cases h
 | .br .., .ok _, _, _, h, _, _ => by cases h
 | .br .., .both .., _, _, h, _, _ => by cases h
 | .br .., .bad _, _, _, h, _, _ => by cases h
 | .both .., _, _, _, h, _, _ => by cases h
 | .bad _, _, _, _, h, _, _ => by cases h
theorem Meth.same_spec {m : Meth} {a : Fam} {o o' : Out} (h : m.same a o o' = true) : leafE m.rs o' = leafE m.rs o /\ (List.range a.nv).map (famS a o') = (List.range a.nv).map (famS a o) := by
 simp only [Meth.same, bAnd] at h; refine ⟨?_, (E.beqs_eq _ _ h.2).symm⟩; have h1 := h.1; split at h1
 ·rename_i es es' he he'
  rw [he, he', E.beqs_eq _ _ h1]
 ·cases h1
theorem Meth.pick_good {kp : Nat} {rs : List Rule} {m : Meth} {a : Fam} {F G : Mng} (h : But m.name F G) (ns : List Int) : ∀ {t : T Out}, m.good kp rs a t = true ->
  ∃ o, t.pickB (envOf G ns) = some o /\ m.leaf kp rs a o = true /\ ∀ Q : Out -> Prop, (∀ o', m.leaf kp rs a o' = true -> leafE m.rs o' = leafE m.rs o /\ (List.range a.nv).map (famS a o') = (List.range a.nv).map (famS a o) -> Q o') -> t.holds (envOf F ns) Q
 | .ok o, hg => ⟨o, rfl, hg, fun Q hQ => hQ o hg ⟨rfl, rfl⟩⟩
 | .br c t e, hg => by
  simp only [Meth.good, bAnd] at hg; have hc := E.ev_free h ns c hg.1.1; obtain ⟨o, a1, a2, a3⟩ := Meth.pick_good (m := m) (a := a) h ns hg.1.2; obtain ⟨o', b1, b2, b3⟩ := Meth.pick_good (m := m) (a := a) h ns hg.2
  by_cases h0 : c.ev (envOf G ns) = 0
  ·exact ⟨o', by simp only [T.pickB]; rw [if_neg (by simpa using h0)]; exact b1, b2, fun Q hQ => ⟨fun h1 => absurd (hc.trans h0) h1, fun _ => b3 Q hQ⟩⟩
  ·exact ⟨o, by simp only [T.pickB]; rw [if_pos h0]; exact a1, a2, fun Q hQ => ⟨fun _ => a3 Q hQ, fun h1 => absurd (hc.symm.trans h1) h0⟩⟩
 | .both t e, hg => by
  simp only [Meth.good, bAnd] at hg; obtain ⟨o, a1, a2, a3⟩ := Meth.pick_good (m := m) (a := a) h ns hg.1.1; obtain ⟨o', b1, b2, b3⟩ := Meth.pick_good (m := m) (a := a) h ns hg.1.2; obtain ⟨s1, s2⟩ := Meth.same_spec (Meth.alike_pick hg.2 a1 b1); exact ⟨o, a1, a2, fun Q hQ => ⟨a3 Q hQ, b3 Q fun o2 hl hs => hQ o2 hl ⟨hs.1.trans s1, hs.2.trans s2⟩⟩⟩
 | .bad _, hg => by cases hg
def famNs (a : Fam) (o : Out) (ρ : Env) : List Int := (List.range a.nv).map fun i => (famS a o i).ev ρ
def methV (G : Mng) (cod : List Int -> Int) (a : Fam) (rs : List Sh) (t : Nat) (tr : T Out) (j : Nat) (ns : List Int) : Int :=
 match tr.pickB (envOf G ns) with
 | some o => if j = 0 then cod ((t : Int) :: famNs a o (envOf G ns)) else match leafE rs o with
  | some es => (E.evs (envOf G ns) es).getD (j - 1) 0
  | none => 0
 | none => 0
theorem envOf_low {F G : Mng} (h : ∀ f, f < 60 -> F f = G f) {n : Nat} {ns ms : List Int} (hl : ns.length = n) : Near n 60 (envT G ns) (envOf F (ns ++ ms)) :=
 ⟨fun i hi => by
  show ns.getD i 0 = (ns ++ ms).getD i 0; rw [gDe, gDe, lAp (by omega)], fun f hf => (h f hf).symm⟩
section
variable {P : Program} {F G G0 : Mng} {O : Nat -> List Int -> Nat -> (Nat -> Prop) -> World -> Prop}
theorem meth_run {kp : Nat} {rs : List Rule} {m : Meth} {a : Fam} (hfam : a.ok 60 = true) (hO : ∀ (k : Nat) (x : Box) (q : Nat) (es : List E), a.bs[k]? = some x -> x.c = .obj q es -> ∀ vs b φ w, O q vs b φ w ↔ Ob q vs b φ w) (hF : ∀ f, f < 60 -> F f = G0 f) (hB : But m.name F G)
  {ns as : List Int} {β : Bm} {ψ : Nat -> Nat -> Prop} {w : World} (hlen : ns.length = a.nv) (hfs : ∀ p ∈ a.fs, (p.1.ev (envT G0 ns) ≠ 0 ↔ p.2 = true)) (hl : TLay O (envT G0 ns) a.bs β ψ w)
  {call : Caller} (hcall : CallOk P (envOf F (ns ++ as)) w (blksT a.bs β ψ) [] call) (has : shFits m.ps as) (hR : ∀ r ∈ rs, RuleOk (envOf F (ns ++ as)) r) (hg : m.good kp rs a (m.tree call a) = true) :
  ∃ o es, (m.tree call a).pickB (envOf G (ns ++ as)) = some o /\ leafE m.rs o = some es /\ E.evs (envOf F (ns ++ as)) es = E.evs (envOf G (ns ++ as)) es /\ famNs a o (envOf F (ns ++ as)) = famNs a o (envOf G (ns ++ as)) /\ (∀ i, i < kp -> famS a o i = .var i) /\
   Calls P m.f (.pointer (some ⟨(β 0).1, 0, none⟩) :: shVals m.ps as).toArray w fun e w' => e = .returned (packV (shVals m.rs (E.evs (envOf F (ns ++ as)) es))) /\ shFits m.rs (E.evs (envOf F (ns ++ as)) es) /\
    ∃ β' ψ', (β' 0).1 = (β 0).1 /\ (∀ p ∈ a.fs, (p.1.ev (envT G0 (famNs a o (envOf F (ns ++ as)))) ≠ 0 ↔ p.2 = true)) /\ TLay O (envT G0 (famNs a o (envOf F (ns ++ as)))) a.bs β' ψ' w' /\ (∀ i, blksT a.bs β' ψ' i -> blksT a.bs β ψ i \/ w.heap.size <= i) /\ Kept w (blksT a.bs β ψ) w' := by
 have hparts := Fam.parts hfam; have hfam' := hfam; simp only [Fam.ok, bAnd, blt_iff, dEq] at hfam'; obtain ⟨⟨hpos, _⟩, hwf⟩ := hfam'; have hnear := envOf_low (ms := as) hF hlen; have hlF := hl.near hnear hparts; have hh := hlF.heap hparts fun k x q es hk e vs b φ w => (hO k x q es hk e vs b φ w).1
 obtain ⟨o, p1, p2, p3⟩ := Meth.pick_good (m := m) (a := a) hB (ns ++ as) hg; rw [Meth.leaf, famFit_eq] at p2; simp only [bAnd] at p2; obtain ⟨_, _, ⟨l3, l4⟩, l5⟩ := p2
 obtain ⟨es, he, hes⟩ : ∃ es, leafE m.rs o = some es /\ E.frees m.name es = true := by
  split at l3
  ·rename_i es he; exact ⟨es, he, l3⟩
  ·cases l3
 have e1 : E.evs (envOf F (ns ++ as)) es = E.evs (envOf G (ns ++ as)) es := E.evs_free hB _ es hes; have e2 : famNs a o (envOf F (ns ++ as)) = famNs a o (envOf G (ns ++ as)) := List.map_congr_left fun i hi => E.ev_free hB _ _ (lAl.1 l4 i hi)
 have hdrop : (ns ++ as).drop a.nv = as := by rw [<- hlen]; exact List.drop_left ..
 have hasf : shFits m.ps ((ns ++ as).drop a.nv) := by rw [hdrop]; exact has
 obtain ⟨v1, v2, v3⟩ := varShs_spec (F := F) (β := β) (n := a.bs.length) (hs := m.ps) (i := a.nv) hasf; rw [hdrop] at v1
 have hfacts0 : FsOk (envOf F (ns ++ as)) (a.fs ++ (boxRngs a.bs ++ varFacts m.ps a.nv)) :=
  fsOk_app (facts_near hnear hwf hfs) (fsOk_app (boxRngs_ok fun x hx => by
   obtain ⟨k, hk, rfl⟩ := List.getElem_of_mem hx; exact hlF.good k _ (lGe hk)) (varFacts_ok hasf))
 have hfacts : FsOk (envOf F (ns ++ as)) ((a.fs ++ (boxRngs a.bs ++ varFacts m.ps a.nv)).filter (m.sel a.nv)) := fun p hp => hfacts0 p (List.mem_filter.1 hp).1
 refine ⟨o, es, p1, he, e1, e2, fun i hi => E.beq_eq _ _ (lAl.1 l5 i (mRa.2 hi)), ?_⟩
 have hrun := (hcall m.f (.ptr 0 0 :: varShs m.ps a.nv) (Hp.ofL a.bs) ((a.fs ++ (boxRngs a.bs ++ varFacts m.ps a.nv)).filter (m.sel a.nv)) β w
  (fun x w' => x = packV (shVals m.rs (E.evs (envOf F (ns ++ as)) es)) /\ shFits m.rs (E.evs (envOf F (ns ++ as)) es) /\
    ∃ β' ψ', (β' 0).1 = (β 0).1 /\ (∀ p ∈ a.fs, (p.1.ev (envT G0 (famNs a o (envOf F (ns ++ as)))) ≠ 0 ↔ p.2 = true)) /\ TLay O (envT G0 (famNs a o (envOf F (ns ++ as)))) a.bs β' ψ' w' /\ (∀ i, blksT a.bs β' ψ' i -> blksT a.bs β ψ i \/ w.heap.size <= i) /\ Kept w (blksT a.bs β ψ) w')
  hh hfacts ⟨hpos, v2⟩ (fun _ h => by cases h)
  (p3 _ ?_)).2
 ·have ev : SV.evs (envOf F (ns ++ as)) β (.ptr 0 0 :: varShs m.ps a.nv) = .pointer (some ⟨(β 0).1, 0, none⟩) :: shVals m.ps as := by
   simp only [SV.evs, SV.ev]; rw [v1]
  rw [ev] at hrun; exact hrun.mono fun e w' ⟨v, he, hv, hx⟩ => ⟨by rw [he, hv], hx⟩
 ·intro o2 p2' ⟨s1, s2⟩ β' w' hx hle hst hh' hf' hv
  rw [Meth.leaf, famFit_eq] at p2'; simp only [bAnd, beq_iff, dEq] at p2'; obtain ⟨⟨l1, l1'⟩, ⟨l0, l2⟩, _⟩ := p2'
  have hns : ∀ ρ, famNs a o ρ = famNs a o2 ρ := fun ρ => by
   have := congrArg (List.map fun e : E => e.ev ρ) s2
   rw [List.map_map, List.map_map] at this; exact this.symm
  rw [hns]; have he' := s1.trans he; unfold leafE at he'; split at he'
  ·rename_i hc
   obtain ⟨q1, q2⟩ := packV_unpack hc.2 hv he'; obtain ⟨r1, r2⟩ := shTakes_spec (β := β0) q2 he'; refine ⟨by rw [SV.ev_flat β' β0 _ hc.1, q1, r1], r2, ?_⟩
   have hn : 0 < o2.hp.n := Nat.lt_of_lt_of_le hpos hle; have hfsR := addRules_ok hf' hR; have hheap : Heap (envSub (envOf F (ns ++ as)) (famS a o2)) w (blksT a.bs β ψ) (fun k => β' (famP a o2 k)) (Hp.ofL a.bs) w' := lay_fit (st := famSt o2) hh' hfsR l1 l1'
   obtain ⟨ψ', t1, t2⟩ := hheap.tlay hparts fun k x q es hk e vs b φ w => (hO k x q es hk e vs b φ w).2
   have hnr : Near a.nv 60 (envSub (envOf F (ns ++ as)) (famS a o2)) (envT G0 (famNs a o2 (envOf F (ns ++ as)))) := ⟨fun i hi => by
    show (famS a o2 i).ev _ = (famNs a o2 _).getD i 0; unfold famNs; rw [gDe, lMp, lRa hi]; rfl, fun f hf => hF f hf⟩
   refine ⟨fun k => β' (famP a o2 k), ψ', ?_, facts_near hnr hwf (fitFQ_ok hfsR (facts_near hnear hwf hfs) l0), t1.near hnr hparts, t2, hh'.kept⟩
   ·show (β' (famP a o2 0)).1 = _
    rw [l2, hx 0 hpos]
  ·cases he'
end
def leafOkI (gl : Gl) (cuts : List CutN) (endOk : Rs -> Bool) (rs : List Rule) (less : Fs -> TmN -> Bool) : Sp -> Bool
 | .done r => endOk ⟨r.x, withR rs r.st⟩ || noWay (addRules r.st.facts rs)
 | .loop p st => (cuts.any fun c => (c.p == p) && c.ts.any fun t => t.τ.quick st && t.τ.fit gl (fun i => .var i) (withR rs st) && less (withR rs st).facts t) || noWay (addRules st.facts rs)
def roundOkI (P : Program) (gl : Gl) (call : Caller) (keep : Nat -> List Nat) (fuel : Nat) (cuts : List CutN) (endOk : Rs -> Bool) (C : Code) (p : Fs) (c : CutN) (t : TmN) (g : Nat -> Value) : Bool :=
 match bodyAt C c.p with
 | some b => (nonnegF (t.τ.stP g p).facts t.m1 && nonnegF (t.τ.stP g p).facts t.m2 && nonnegF (t.τ.stP g p).facts t.m3) && (stepN P gl call keep fuel C c.p b (t.τ.stP g p)).all (leafOkI gl cuts endOk t.rs (fun fs t' => lexF fs (fun i => .var i) t' t))
 | none => false
def SubC (l m : List CutN) : Prop := ∀ c ∈ l, ∃ d ∈ m, d.p = c.p /\ ∀ t ∈ c.ts, t ∈ d.ts
theorem leafOkI_sub {gl : Gl} {l m : List CutN} (h : SubC l m) {endOk : Rs -> Bool} {rs : List Rule} {less : Fs -> TmN -> Bool} {s : Sp} (hs : leafOkI gl l endOk rs less s = true) : leafOkI gl m endOk rs less s = true := by
 cases s with
 | done r => exact hs
 | loop p st =>
  simp only [leafOkI, bOr] at hs ⊢; rcases hs with hs | hs
  ·left
   simp only [List.any_eq_true, bAnd] at hs ⊢; obtain ⟨c, hc, hp, t, ht, h1⟩ := hs; obtain ⟨d, hd, e, hts⟩ := h c hc; exact ⟨d, hd, by rw [e]; exact hp, t, hts t ht, h1⟩
  ·exact .inr hs
section
variable {P : Program} {ρ : Env} {w0 : World} {M : Nat -> Prop} {gl : Gl} {call : Caller} {keep : Nat -> List Nat} {fuel : Nat} {cuts : List CutN} {endOk : Rs -> Bool} {C : Code} {Q : Exit -> Act -> World -> Prop}
theorem fit_here {τ : Tm} {β : Bm} {st : St} {a : Act} {w : World} (hc : Conc ρ w0 M gl β st a w) (h : τ.fit gl (fun i => .var i) st = true) : ∃ β' g, Conc ρ w0 M gl β' (τ.st g) a w := by
 have := Tm.fit_run hc h; exact ⟨_, _, this⟩
theorem loopsI_run {ax : Fs} (hax : FsOk ρ ax) (hc : CallOk P ρ w0 M gl call) (hm : P.follows .mixedOrders = true)
  (hend : ∀ (β : Bm) (r : Rs) (a : Act) (w : World), Conc ρ w0 M gl β r.st a w -> endOk r = true -> Q r.x.to a w)
  (hrule : ∀ c ∈ cuts, ∀ t ∈ c.ts, ∀ r ∈ t.rs, RuleOk ρ r)
  (hr : ∀ c ∈ cuts, ∀ t ∈ c.ts, ∃ ct : CT, ∀ g, ct.all fun p => ∃ l, SubC l cuts /\ roundOkI P gl call keep fuel l endOk C (p ++ ax) c t g = true) :
  ∀ (m : Nat × Nat × Nat) (β : Bm) (c : CutN) (t : TmN) (g : Nat -> Value) (a : Act) (w : World), c ∈ cuts -> t ∈ c.ts -> Conc ρ w0 M gl β (t.τ.st g) a w -> mea3 ρ t = m -> LoopAt P C c.p Q a w := by
 intro m
 induction m using lex3_wf.induction with
 | _ m ih =>
  intro β c t g a w hcm ht hst hm'
  -- measures are no negative numbers
  have pos : ∀ (c : CutN) (t : TmN) (g : Nat -> Value) (β : Bm) (a : Act) (w : World), c ∈ cuts -> t ∈ c.ts -> Conc ρ w0 M gl β (t.τ.st g) a w -> 0 <= t.m1.ev ρ /\ 0 <= t.m2.ev ρ /\ 0 <= t.m3.ev ρ := fun c t g β a w hcm ht hst => by
   obtain ⟨ct1, hct1⟩ := hr c hcm t ht; obtain ⟨p1, hp1, l, _, h1⟩ := CT.some ρ (hct1 g); unfold roundOkI at h1; split at h1
   ·simp only [bAnd] at h1
    have hf : FsOk ρ (t.τ.stP g (p1 ++ ax)).facts := fsOk_app (fsOk_app hp1 hax) hst.facts; exact ⟨nonnegF_spec hf h1.1.1.1, nonnegF_spec hf h1.1.1.2, nonnegF_spec hf h1.1.2⟩
   ·cases h1
  -- on from a place where a template fits
  have go : ∀ (β' : Bm) (p : Path) (st' : St) (a' : Act) (w' : World), Conc ρ w0 M gl β' st' a' w' -> leafOkI gl cuts endOk t.rs (fun fs t' => lexF fs (fun i => .var i) t' t) (.loop p st') = true -> LoopAt P C p Q a' w' := fun β' p st' a' w' hc' hs => by
   have hc3 := withR_conc hc' (hrule c hcm t ht); simp only [leafOkI, bOr] at hs; rcases hs with hs | hs
   rotate_left
   ·exact (noWay_spec hc3.facts hs).elim
   simp only [List.any_eq_true, bAnd] at hs; obtain ⟨c', hcm', hp', t', ht', ⟨_, hfit'⟩, hless⟩ := hs; obtain rfl : c'.p = p := by simpa using hp'
   obtain ⟨β2, g2, hc2⟩ := fit_here hc3 hfit'; obtain ⟨q1, q2, q3⟩ := pos c' t' _ _ a' w' hcm' ht' hc2; have hl := lexF_spec (σ := fun i => .var i) hc3.facts hless q1 q2 q3
   rw [hm'] at hl; exact ih _ hl _ c' t' _ a' w' hcm' ht' hc2 rfl
  obtain ⟨ct1, hct1⟩ := hr c hcm t ht; obtain ⟨p1, hp1, l, hl, h1⟩ := CT.some ρ (hct1 g)
  replace hst : Conc ρ w0 M gl β (t.τ.stP g (p1 ++ ax)) a w := hst.facts_to (fsOk_app (fsOk_app hp1 hax) hst.facts)
  unfold roundOkI at h1; split at h1
  rotate_left
  ·cases h1
  rename_i b hb; rw [bAnd] at h1; refine ⟨b, hb, more_step ?_⟩; have h2 := T.holds_mono (fun s hs => leafOkI_sub hl hs) (T.all_holds (ρ := ρ) h1.2)
  unfold stepN at h2; rw [T.holds_bind] at h2; refine execP_run hc hm b β _ a w _ hst (T.holds_mono (fun s hs => ?_) h2)
  cases s with
  | loop p' st' =>
   intro β' a' w' hx hl hss hc'; obtain ⟨b', hb', hw'⟩ := go β' (c.p ++ 0 :: p') st' a' w' hc' hs; rw [bodyAt_in C c.p p' hb] at hb'; rw [postAt_in C c.p p' Q hb] at hw'; exact ⟨b', hb', hw'⟩
  | done r =>
   obtain ⟨x, st'⟩ := r
   have fwd : ∀ x', x' = x -> x' ≠ .normal -> T.holds ρ (resumeP P gl call keep fuel C c.p ⟨x', st'⟩) (fun s => leafOkI gl cuts endOk t.rs (fun fs t' => lexF fs (fun i => .var i) t' t) s = true) -> Ends ρ w0 M gl β (t.τ.stP g (p1 ++ ax)).hp (Exit.then (More P b (postAt P C c.p Q)) (postAt P C c.p Q)) ⟨x', st'⟩ := fun x' hx' hne hs => by
    intro β' a' w' hx hl hss hc'; have := resumeP_run hc hm C c.p β' ⟨x', st'⟩ a' w' Q hc' (T.holds_mono (fun s' hs' => ?_) hs)
    ·cases x' with
     | normal => exact absurd rfl hne
     | exit id => exact this
     | ret => exact this
    ·cases s' with
     | done r' =>
      intro β2 a2 w2 _ _ _ hc2; have hs2 : (endOk ⟨r'.x, withR t.rs r'.st⟩ || noWay (addRules r'.st.facts t.rs)) = true := hs'
      have hc3 := withR_conc hc2 (hrule c hcm t ht); rw [bOr] at hs2; rcases hs2 with hs2 | hs2
      ·exact hend β2 ⟨r'.x, withR t.rs r'.st⟩ a2 w2 hc3 hs2
      ·exact (noWay_spec hc3.facts hs2).elim
     | loop p' st2 => exact fun β2 a2 w2 _ _ _ hc2 => go β2 p' st2 a2 w2 hc2 hs'
   cases x with
   | normal =>
    intro β' a' w' hx hl hss hc'; obtain ⟨b', hb', hw'⟩ := go β' c.p st' a' w' hc' hs; obtain rfl : b = b' := sinj (hb.symm.trans hb'); exact hw'
   | exit id => exact fwd (.exit id) rfl (by intro h; cases h) hs
   | ret => exact fwd .ret rfl (by intro h; cases h) hs
theorem codeI_run {ax : Fs} (hax : FsOk ρ ax) (hc : CallOk P ρ w0 M gl call) (hm : P.follows .mixedOrders = true)
  (hend : ∀ (β : Bm) (r : Rs) (a : Act) (w : World), Conc ρ w0 M gl β r.st a w -> endOk r = true -> Q r.x.to a w)
  (hrule : ∀ c ∈ cuts, ∀ t ∈ c.ts, ∀ r ∈ t.rs, RuleOk ρ r)
  (hr : ∀ c ∈ cuts, ∀ t ∈ c.ts, ∃ ct : CT, ∀ g, ct.all fun p => ∃ l, SubC l cuts /\ roundOkI P gl call keep fuel l endOk C (p ++ ax) c t g = true) {rs0 : List Rule} (hr0 : ∀ r ∈ rs0, RuleOk ρ r) {β : Bm} {st : St} {a : Act} {w : World} (hst : Conc ρ w0 M gl β st a w)
  (h : (execP P gl call keep fuel C st).holds ρ fun s => leafOkI gl cuts endOk rs0 (fun _ _ => true) s = true) : C.wp P Q a w := by
 refine execP_run hc hm C β st a w Q hst (T.holds_mono (fun s hs => ?_) h)
 cases s with
 | done r =>
  intro β2 a2 w2 _ _ _ hc2; have hs2 : (endOk ⟨r.x, withR rs0 r.st⟩ || noWay (addRules r.st.facts rs0)) = true := hs
  have hc3 := withR_conc hc2 hr0; rw [bOr] at hs2; rcases hs2 with hs2 | hs2
  ·exact hend β2 ⟨r.x, withR rs0 r.st⟩ a2 w2 hc3 hs2
  ·exact (noWay_spec hc3.facts hs2).elim
 | loop p st' =>
  intro β2 a2 w2 _ _ _ hc2; have hc3 := withR_conc hc2 hr0; simp only [leafOkI, bOr] at hs; rcases hs with hs | hs
  rotate_left
  ·exact (noWay_spec hc3.facts hs).elim
  simp only [List.any_eq_true, bAnd] at hs; obtain ⟨c', hcm', hp', t', ht', ⟨_, hfit'⟩, _⟩ := hs; obtain rfl : c'.p = p := by simpa using hp'
  obtain ⟨β3, g3, hc4⟩ := fit_here hc3 hfit'; exact loopsI_run hax hc hm hend hrule hr _ _ c' t' _ a2 w2 hcm' ht' hc4 rfl
theorem fn_runI {ax : Fs} (hax : FsOk ρ ax) {R : Ending -> World -> Prop} {w : World} {β : Bm} {hp : Hp} (hc : CallOk P ρ w0 M gl call) (hm : P.follows .mixedOrders = true) {f : FuncId} {fn : Func} (hfn : P.funcs[f]? = some fn) (hbd : fn.body = some C) {args : List SV} {fs0 : Fs} (hh : Heap ρ w0 M β hp w) (hg : GlOk gl β hp.n) (hfs : FsOk ρ fs0)
  (hargs : SV.oks ρ hp.n args)
  (hrule : ∀ c ∈ cuts, ∀ t ∈ c.ts, ∀ r ∈ t.rs, RuleOk ρ r)
  (hr : ∀ c ∈ cuts, ∀ t ∈ c.ts, ∃ ct : CT, ∀ g, ct.all fun p => ∃ l, SubC l cuts /\ roundOkI P gl call keep fuel l endOk C (p ++ ax) c t g = true) {rs0 : List Rule} (hr0 : ∀ r ∈ rs0, RuleOk ρ r)
  (h : (execP P gl call keep fuel C (entrySt fn args hp fs0)).all (leafOkI gl cuts endOk rs0 (fun _ _ => true)) = true)
  (hend : ∀ (β' : Bm) (r : Rs) (a : Act) (w' : World), Conc ρ w0 M gl β' r.st a w' -> endOk r = true -> (∀ id, r.x ≠ .exit id) /\ ∃ vs, resultsS P r.st fn.results.toList = some vs /\ R (.returned ((packS vs).ev ρ β')) w') :
  Calls P f (SV.evs ρ β args).toArray w R := by
 refine calls_of_wp hfn hbd (codeI_run hax hc hm ?_ hrule hr hr0 (entry_conc hh hfs hargs hg) (T.all_holds h)); intro β' r a w' hst he; obtain ⟨h1, vs, hvs, hR⟩ := hend β' r a w' hst he; obtain ⟨x, st⟩ := r; obtain ⟨r1, r2⟩ := results_run hst hvs; cases x with
 | exit id => exact absurd rfl (h1 id)
 | normal => exact ⟨hst.defers, _, r1, hR⟩
 | ret => exact ⟨hst.defers, _, r1, hR⟩
end
theorem pays_call {P : Program} {ρ : Env} {β : Bm} {w : World} {hp : Hp} {gl : Gl} {call : Caller} {f : FuncId} {args : List SV} {fs0 : Fs} (hh : Heap ρ w (fun _ => False) β hp w) (hg : GlOk gl β hp.n) (hfs : FsOk ρ fs0) (hc : CallOk P ρ w (fun _ => False) gl call) (hargs : SV.oks ρ hp.n args) (h : (call f args hp fs0).holds ρ fun o => isTrueF o = true) :
  Calls P f (SV.evs ρ β args).toArray w fun e w' => e = .returned (.bool true) /\ Below w.heap.size w w' := by
 refine ((hc f args hp fs0 β w (fun v w' => v = .bool true /\ Below w.heap.size w w') hh hfs hargs hg
  (T.holds_mono (fun o ho β' w' _ _ _ hh hf _ => ?_) h)).2).mono fun e w' ⟨v, he, hv, hb⟩ => ⟨by rw [he, hv], hb⟩
 exact ⟨isTrueF_spec hf ho β', hh.kept.to_below⟩
section
variable {P : Program} {w : World}
theorem pays_slice_call {call : Caller} {F : Mng} (tabs : Tabs) (hd : (tabs.map (·.1)).Nodup)
  {f : FuncId} {hs : List Ph} (h1 : phOne hs = true) (ht : TabsIn tabs w) (hc : ∀ ns A, CallOk P (envA F ns A) w (fun _ => False) (tabGl tabs 0) call)
  {ns : List Int} {ss : List Value} (hns : phFits hs ns) (hlen : ns.length = phSize hs) (hss : slFits w hs ss)
  (t1 : ∀ (b off len cap : Nat) (A : Nat -> Nat -> Int -> Int), ArrIn w (phKs hs) b off len cap A -> cap <= maxLen -> Calls P f (phVals hs ns [.slice (some ⟨b, off, none⟩) len cap]).toArray w fun e w' => e = .returned (.bool true) /\ Below w.heap.size w w')
  (t2 : (call f (phArgs tabs.length (phSize hs) (some (inpNo tabs.length (phKs hs).length (phSize hs))) hs 0) (noHp tabs) (phFacts hs 0)).all isTrueF = true)
  (t3 : (call f (phArgs tabs.length (phSize hs) (some rawNil) hs 0) (noHp tabs) (phFacts hs 0)).all isTrueF = true) :
  Calls P f (phVals hs ns ss).toArray w fun e w' => e = .returned (.bool true) /\ Below w.heap.size w w' := by
 obtain ⟨hz, hks, S, hS, hget⟩ := phOne_spec h1 hss
 have hvals : phVals hs ns ss = phVals hs ns [S] := by
  have key : ∀ {hs : List Ph} {ns : List Int} {ss : List Value}, phOne hs = true -> (∀ j, j < (hs.filter fun p => match p with | .sh _ => false | .sl _ => true).length -> ss[j]? = some S) -> phVals hs ns ss = phVals hs ns [S] := fun {hs} => by
   induction hs with
   | nil => intro ns ss h; cases h
   | cons p l ih =>
    intro ns ss h hg; cases p with
    | sh q => simp only [phVals]; rw [ih (by simpa [phOne] using h) (fun j hj => hg j (by simpa using hj))]
    | sl ks =>
     have h0 := hg 0 (by simp)
     cases ss with
     | nil => simp at h0
     | cons s ss =>
      simp only [List.getElem?_cons_zero, sEq] at h0; subst h0; simp only [phVals, List.headD_cons, List.tail_cons]; congr 1
      have hno : ∀ {l : List Ph} {ns : List Int} {a b : List Value}, (∀ p ∈ l, ∀ ks, p ≠ .sl ks) -> phVals l ns a = phVals l ns b := fun {l} => by
       induction l with
       | nil => intros; rfl
       | cons q l ih2 =>
        intro ns a b hq; cases q with
        | sh _ => simp only [phVals]; rw [ih2 fun p hp => hq p (lTl _ hp)]
        | sl ks => exact (hq _ (lHd ..) ks rfl).elim
      simp only [phOne, bAnd] at h; exact hno (phOne_rest h.2)
  exact key h1 hget
 have hT := tab_heap hd ht (fun _ => False)
 have hgl : ∀ {bv : Nat × Nat}, GlOk (tabGl tabs 0) (upd (tabB tabs) tabs.length bv) (tabs.length + 1) := fun {bv} => tab_gl (fun j p hj => by
   have hjl := (lSo.1 hj).1; have : upd (tabB tabs) tabs.length bv (0 + j) = tabB tabs j := by rw [Nat.zero_add]; exact upd_ext _ _ _ j hjl
   rw [this]; simp [tabB, hj]) (by omega)
 have no : ∀ (raw : SV) (bv : Nat × Nat) (len cap : Int) (A : Nat -> Nat -> Int -> Int), raw.ev (envA F (ns ++ [len, cap]) A) (upd (tabB tabs) tabs.length bv) = S -> raw.ok (envA F (ns ++ [len, cap]) A) (tabs.length + 1) ->
   (call f (phArgs tabs.length (phSize hs) (some raw) hs 0) (noHp tabs) (phFacts hs 0)).all isTrueF = true ->
   Calls P f (phVals hs ns ss).toArray w fun e w' => e = .returned (.bool true) /\ Below w.heap.size w w' := fun raw bv len cap A hev hrk tr => by
  obtain ⟨a, b⟩ := ph_append (hs := hs) (ms := [len, cap]) (ss := ss) hlen; have g2 := b.2 hns; obtain ⟨p1, p2⟩ := phArgs_spec (F := F) (A := A) (n := tabs.length + 1) (k := tabs.length) (m := phSize hs) (raw := some raw) (ks := phKs hs) hev hrk (hs := hs) (i := 0) (ss := ss) g2 hks hget; rw [List.drop_zero, a] at p1; rw [<- p1]; exact pays_call (hp := noHp tabs) ((hT (envA F (ns ++ [len, cap]) A)).pushRo (b := .gone) rfl trivial trivial (fun h => by cases h)) hgl (phFacts_ok g2) (hc _ _) p2 (T.all_holds tr)
 have hv2 : ∀ (len cap : Int), (ns ++ [len, cap]).getD (phSize hs + 1) 0 = cap := fun len cap => by rw [<- hlen]; simp
 rcases ArrIn.of_in hS with hS | ⟨b, off, cap, hS, hmax⟩ | ⟨b, off, len, cap, A, hS, hA, hmax⟩
 ·exact no rawNil (0, 0) 0 0 (fun _ _ _ => 0) hS.symm trivial t3
 ·refine no (inpNo tabs.length (phKs hs).length (phSize hs)) (b, off) 0 cap (fun _ _ _ => 0) ?_ ⟨Nat.lt_succ_self _, (show (Lit.int .i64 0).wf = true by decide), Int.le_refl _, ?_, by simp [E.ev]⟩ t2
  ·rw [hS]
   simp only [inpNo, SV.ev, upd_same, E.ev, envA, hv2]; simp
  ·simp only [E.ev, envA, hv2]
   exact Int.natCast_nonneg _
 ·rw [hvals, hS]
  exact t1 b off len cap A hA hmax
end
end SX
section
def bL : Nat -> Nat -> List Bool
 | 0, _ => []
 | d + 1, k => Nat.beq (k % 2) 1 :: bL d (k / 2)
theorem bL_all : ∀ (d : Nat) {p : List Bool -> Prop}, (∀ k, k < 2 ^ d -> p (bL d k)) -> ∀ {l : List Bool}, l.length = d -> p l
 | 0, p, h, [], _ => h 0 (by decide)
 | d + 1, p, h, b :: l, hl => by
  refine bL_all d (p := fun l => p (b :: l)) (fun k hk => ?_) (by simpa using hl)
  cases b
  ·have := h (2 * k) (by rw [Nat.pow_succ]; omega)
   rw [bL, show 2 * k % 2 = 0 by omega, show 2 * k / 2 = k by omega] at this
   exact this
  ·have := h (2 * k + 1) (by rw [Nat.pow_succ]; omega)
   rw [bL, show (2 * k + 1) % 2 = 1 by omega, show (2 * k + 1) / 2 = k by omega] at this
   exact this
end
end Go.Proofs.YtfcpmapfhgibpaaGreatDoor
