/- Methods; trees compared; Check, instant, AddCorr and Nanos of the reference. -/
import Derived.Test.YtfcpmapfhgibpaaGreatDoorWf
import Derived.Test.YtfcpmapfhgibpaaGreatDoorWk
set_option linter.unusedVariables false
set_option linter.unusedSimpArgs false
set_option maxRecDepth 1000000
namespace Go.Proofs.YtfcpmapfhgibpaaGreatDoor
noncomputable section
section
open Go Go.RowKit SX Frm Frn
structure Kind where
 q : Nat
 fam : Nat -> Option Fam
 O : Nat -> List Int -> Nat -> (Nat -> Prop) -> World -> Prop
 kp : Nat
structure KindOk (K : Kind) : Prop where
 is : ∀ vs b φ w, Ob K.q vs b φ w ↔ TOb K.O FN K.fam codL vs b φ w
 ok : ∀ t a, K.fam t = some a -> a.ok 60 = true
 nest : ∀ t a, K.fam t = some a -> ∀ (k : Nat) (x : Box) (q : Nat) (es : List E), a.bs[k]? = some x -> x.c = .obj q es -> ∀ vs b φ w, K.O q vs b φ w ↔ Ob q vs b φ w
def Keeps (kp : Nat) (X Y : Int) : Prop := ∃ (t : Nat) (ns ms : List Int), X = codL ((t : Int) :: ns) /\ Y = codL ((t : Int) :: ms) /\ ∀ i, i < kp -> ms.getD i 0 = ns.getD i 0
def MethOk (P : Program) (I : World -> Prop) (F : Mng) (q kp : Nat) (m : Meth) : Prop := ∀ (X : Int) (xs : List Int) (b : Nat) (φ : Nat -> Prop) (w : World), shFits m.ps xs -> Ob q [X] b φ w -> (∀ w', Kept w φ w' -> I w') ->
 shFits m.rs (fnVals (F m.name) (X :: xs) (shSize m.rs) 1) /\ Keeps kp X (F m.name 0 (X :: xs)) /\ Calls P m.f (ptrV b :: shVals m.ps xs).toArray w fun e w' => e = .returned (packV (shVals m.rs (fnVals (F m.name) (X :: xs) (shSize m.rs) 1))) /\
  ∃ φ', Ob q [F m.name 0 (X :: xs)] b φ' w' /\ (∀ i, φ' i -> φ i \/ w.heap.size <= i) /\ Kept w φ w'
theorem MethOk.congr {P : Program} {I : World -> Prop} {F G : Mng} {q kp : Nat} {m : Meth} (he : F m.name = G m.name) (h : MethOk P I G q kp m) : MethOk P I F q kp m := fun X xs b φ w => by
 rw [he]; exact h X xs b φ w
def methN (K : Kind) (G : Mng) (call : Caller) (m : Meth) : Nat -> List Int -> Int := fun j ns => match ns with
 | X :: xs => match decL X with
  | t :: ms => match K.fam t.toNat with
   | some a => methV G codL a m.rs t.toNat (m.tree call a) j (ms ++ xs)
   | none => 0
  | [] => 0
 | [] => 0
section
variable {P : Program} {I : World -> Prop} {F G : Mng} {K : Kind} {m : Meth} {call : Caller}
theorem methN_at {t : Nat} {ns xs : List Int} {a : Fam} (hfam : K.fam t = some a) (j : Nat) : methN K G call m j (codL ((t : Int) :: ns) :: xs) = methV G codL a m.rs t (m.tree call a) j (ns ++ xs) := by
 unfold methN; simp only [decL_cod, Int.toNat_natCast, hfam]
theorem famNs_kept {a : Fam} {o : Out} {ns zs : List Int} {i : Nat} (hl : ns.length = a.nv) (h : famS a o i = .var i) : (famNs a o (envOf F (ns ++ zs))).getD i 0 = ns.getD i 0 := by
 unfold famNs
 by_cases hi : i < a.nv
 ·rw [gDe, lMp, lRa hi]
  show (famS a o i).ev _ = _; rw [h]; show (ns ++ zs).getD i 0 = _; rw [gDe, lAp (by omega), <- gDe]
 ·rw [gDe, lNo (by simp; omega), gDe, lNo (by omega)]
theorem meth_ok {rs : Fam -> List Rule} (hK : KindOk K) (hB : But m.name F G) (hlow : Low F) (hF : F m.name = methN K G call m) (hcall : ∀ (ns : List Int) (w : World) (φ : Nat -> Prop), (∀ w', Kept w φ w' -> I w') -> CallOk P (envOf F ns) w φ [] call)
  (hR : ∀ (a : Fam) (ns : List Int), ∀ r ∈ rs a, RuleOk (envOf F ns) r) (hg : ∀ t a, K.fam t = some a -> m.good K.kp (rs a) a (m.tree call a) = true) : MethOk P I F K.q K.kp m := fun X xs b φ w hxs hob hI => by
 obtain ⟨t, ns, a, β, ψ, e, hfam, hlen, rfl, hfs, hl, hφ⟩ := (hK.is _ _ _ _).1 hob; obtain rfl : X = codL ((t : Int) :: ns) := by simpa using e
 obtain rfl : φ = blksT a.bs β ψ := funext fun i => propext (hφ i)
 obtain ⟨o, es, p1, he, e1, e2, hkp, hrun⟩ := meth_run (hK.ok t a hfam) (hK.nest t a hfam) hlow hB hlen hfs hl (hcall (ns ++ xs) w _ hI) hxs (hR a _) (hg t a hfam)
 have hlen' : (E.evs (envOf F (ns ++ xs)) es).length = shSize m.rs := by
  rw [evs_len]; unfold leafE at he; split at he
  ·exact shTakes_len he
  ·cases he
 have hval : fnVals (F m.name) (codL ((t : Int) :: ns) :: xs) (shSize m.rs) 1 = E.evs (envOf F (ns ++ xs)) es := by
  rw [<- hlen']; refine fnVals_getD _ _ _ 1 fun i => ?_
  rw [hF, methN_at hfam]; unfold methV; simp only [p1, he, if_neg (show 1 + i ≠ 0 by omega), Nat.add_sub_cancel_left]
  rw [e1]
 have hobj : F m.name 0 (codL ((t : Int) :: ns) :: xs) = codL ((t : Int) :: famNs a o (envOf F (ns ++ xs))) := by
  rw [hF, methN_at hfam]; unfold methV; simp only [p1, if_true]; rw [e2]
 rw [hval, hobj]; refine ⟨calls_some hrun fun _ _ h => h.2.1, ⟨t, ns, _, rfl, rfl, fun i hi => famNs_kept hlen (hkp i hi)⟩, hrun.mono fun e w' ⟨h1, h2, β', ψ', k1, k2, k3, k4, k5⟩ => ⟨h1, blksT a.bs β' ψ', (hK.is _ _ _ _).2 ⟨t, famNs a o (envOf F (ns ++ xs)), a, β', ψ', rfl, hfam, by simp [famNs], k1, k2, k3, fun i => Iff.rfl⟩, k4, k5⟩⟩
def spMeth (q : Nat) (m : Meth) : SpcT := fun f args hp fs => if f = m.f then (match args with
 | .ptr k 0 :: rest => (match objOf q hp k, shTakes m.ps rest with
  | some x, some es => some (.ok ⟨packS (shApps m.name (canon fs x :: canons fs es) m.rs 1), hp.put k ⟨true, .obj q [.app m.name 0 (canon fs x :: canons fs es)]⟩, fs⟩)
  | _, _ => none)
 | _ => none) else none
theorem spMeth_ok {ρ : Env} {w0 : World} {M : Nat -> Prop} {gl : Gl} {q kp : Nat} (hm : MethOk P I ρ.fn q kp m) (hI : ∀ w', Kept w0 M w' -> I w') : SpecOkT P ρ w0 M gl (spMeth q m) := fun f args hp fs t ht β w K hh hfs ha hg hK => by
 unfold spMeth at ht; split at ht
 ·rename_i hfe
  subst hfe; split at ht
  ·rename_i k rest
   split at ht
   ·rename_i x es hx hes
    obtain rfl := sinj ht; obtain ⟨φ, ho⟩ := hh.objs; have hob := ho.has k _ q [x] (objOf_spec hx) rfl; obtain ⟨a1, a2⟩ := shTakes_spec (β := β) ha.2 hes
    have hA : E.evs ρ (canon fs x :: canons fs es) = x.ev ρ :: E.evs ρ es := by
     show (canon fs x).ev ρ :: E.evs ρ (canons fs es) = _; rw [canon_ev hfs, canons_ev hfs]
    obtain ⟨f1, _, f2⟩ := hm (x.ev ρ) (E.evs ρ es) (β k).1 (φ k) w a2 hob fun w' hk => hI w' (Kept.nest hh.kept (fun i hi => ho.own k _ (objOf_spec hx) rfl i hi) hk)
    have f1' := f1; rw [<- hA] at f1'; obtain ⟨b1, b2⟩ := shApps_spec (β := β) (n := hp.n) m.name _ m.rs 1 _ (Nat.le_refl _) f1'; obtain ⟨c1, c2⟩ := packS_spec (β := β) _ b2
    have hargs : SV.evs ρ β (.ptr k 0 :: rest) = ptrV (β k).1 :: shVals m.ps (E.evs ρ es) := by
     simp only [SV.evs, SV.ev, a1]; rfl
    rw [hargs]; refine f2.mono fun e w' ⟨he, φ', h1, h2, h3⟩ => ⟨_, ?_, hK β w' (Ext.refl _ _) (Nat.le_refl _) (stay_put (objOf_spec hx)) (Heap.turn_ hh ho (objOf_spec hx) (φ' := φ') ?_ h2 h3) hfs c2⟩
    ·rw [he, c1, b1, hA]
    ·show Ob q [ρ.fn m.name 0 (E.evs ρ (canon fs x :: canons fs es))] _ _ _
     rw [hA]; exact h1
   ·cases ht
  ·cases ht
 ·cases ht
end
def exK : Kind := ⟨3, exFam, Ob1, 0⟩
def clK : Kind := ⟨5, clFam, Ob3, 6⟩
theorem exK_ok : KindOk exK := ⟨fun vs b φ w => Iff.rfl, exFam_ok, fun t a h k x q es hk e => by
 have h : exFam t = some a := h; unfold exFam at h; split at h
 ·obtain rfl := sinj h
  match k, hk with
  | 0, hk => obtain rfl := sinj hk; cases e
  | k + 1, hk => cases hk
 ·cases h⟩
def allC {α : Type} (chk : Fs -> α -> Bool) : Fs -> T α -> Bool
 | p, .ok o => chk p o
 | p, .br c t e => allC chk ((c, true) :: p) t && allC chk ((c, false) :: p) e
 | p, .both t _ => allC chk p t
 | _, .bad _ => false
theorem pick_C {α : Type} {ρ : Env} {chk : Fs -> α -> Bool} : ∀ {t : T α} {p : Fs} {o : α}, allC chk p t = true -> SX.FsOk ρ p -> t.pickB ρ = some o -> ∃ p', SX.FsOk ρ p' /\ chk p' o = true
 | .ok o, p, o', h, hp, e => by cases e; exact ⟨p, hp, h⟩
 | .br c t e, p, o', h, hp, hk => by
  simp only [allC, bAnd] at h; simp only [T.pickB] at hk; split at hk
  ·rename_i hc; exact pick_C h.1 (fsOk_cons.2 ⟨⟨fun _ => rfl, fun _ => hc⟩, hp⟩) hk
  ·rename_i hc; exact pick_C h.2 (fsOk_cons.2 ⟨⟨fun h => absurd h hc, fun h => Bool.noConfusion h⟩, hp⟩) hk
 | .both t e, p, o', h, hp, hk => pick_C (t := t) h hp hk
 | .bad _, _, _, h, _, _ => by cases h
def partC {α : Type} (chk : Fs -> α -> Bool) : List Bool -> Fs -> T α -> Bool
 | b :: l, p, .br c t e => match b with
  | true => partC chk l ((c, true) :: p) t
  | false => partC chk l ((c, false) :: p) e
 | _, p, t => allC chk p t
theorem partC_all {α : Type} {chk : Fs -> α -> Bool} : ∀ (d : Nat) (p : Fs) (t : T α), (∀ l : List Bool, l.length = d -> partC chk l p t = true) -> allC chk p t = true
 | 0, p, t, h => by
  have := h [] rfl; cases t <;> exact this
 | d + 1, p, .br c t e, h => by
  have ht : ∀ l : List Bool, l.length = d -> partC chk l ((c, true) :: p) t = true := fun l hl => h (true :: l) (by rw [List.length_cons, hl])
  have he : ∀ l : List Bool, l.length = d -> partC chk l ((c, false) :: p) e = true := fun l hl => h (false :: l) (by rw [List.length_cons, hl])
  simp only [allC, bAnd]; exact ⟨partC_all d _ t ht, partC_all d _ e he⟩
 | d + 1, p, .ok o, h => h (List.replicate (d + 1) true) (by simp)
 | d + 1, p, .both t e, h => h (List.replicate (d + 1) true) (by simp)
 | d + 1, p, .bad n, h => h (List.replicate (d + 1) true) (by simp)
theorem evsGetD {ρ : Env} : ∀ (es : List E) (j : Nat), (E.evs ρ es).getD j 0 = (es.getD j (.lit 0)).ev ρ
 | [], j => rfl
 | e :: es, 0 => rfl
 | e :: es, j + 1 => by
  show (E.evs ρ es).getD j 0 = (es.getD j (.lit 0)).ev ρ; exact evsGetD es j
theorem evsMap {ρ : Env} : ∀ l : List E, E.evs ρ l = l.map fun e => e.ev ρ
 | [] => rfl
 | e :: l => by show e.ev ρ :: E.evs ρ l = _; rw [evsMap l]; rfl
mutual
def inP (p : Nat -> Bool) (m : Nat) : E -> Bool
 | .lit _ => true
 | .var i => p i
 | .rd _ _ _ => false
 | .bin _ _ a b => inP p m a && inP p m b
 | .app f _ l => Nat.blt f m && inPs p m l
def inPs (p : Nat -> Bool) (m : Nat) : List E -> Bool
 | [] => true
 | e :: l => inP p m e && inPs p m l
end
structure Agr (p : Nat -> Bool) (m : Nat) (ρ ρ' : Env) : Prop where
 v : ∀ i, p i = true -> ρ.v i = ρ'.v i
 fn : ∀ f, f < m -> ρ.fn f = ρ'.fn f
section
variable {p : Nat -> Bool} {m : Nat} {ρ ρ' : Env}
mutual
theorem ev_inP (h : Agr p m ρ ρ') : ∀ e : E, inP p m e = true -> e.ev ρ = e.ev ρ'
 | .lit _, _ => rfl
 | .var i, hw => h.v i hw
 | .rd _ _ _, hw => by cases hw
 | .bin o k a b, hw => by
  simp only [inP, bAnd] at hw; simp only [E.ev]; rw [ev_inP h a hw.1, ev_inP h b hw.2]
 | .app f j l, hw => by
  simp only [inP, bAnd, blt_iff, dEq] at hw; simp only [E.ev]; rw [evs_inP h l hw.2, h.fn f hw.1]
theorem evs_inP (h : Agr p m ρ ρ') : ∀ l : List E, inPs p m l = true -> E.evs ρ l = E.evs ρ' l
 | [], _ => rfl
 | e :: l, hw => by
  simp only [inPs, bAnd] at hw; simp only [E.evs]; rw [ev_inP h e hw.1, evs_inP h l hw.2]
end
theorem facts_inP (h : Agr p m ρ ρ') {fs : Fs} (hw : (fs.all fun q => inP p m q.1) = true) (hf : SX.FsOk ρ fs) : SX.FsOk ρ' fs := fun q hq => by
 rw [<- ev_inP h q.1 (lAl.1 hw q hq)]; exact hf q hq
end
def allJ (rw : E -> E) (pr : Nat -> Bool) (m : Nat) (chk : Fs -> Out -> Bool) : Fs -> T Out -> Bool
 | fs, .ok o => chk fs o
 | fs, .br c t e => inP pr m c && (match decideE fs (rw c) with
  | some true => allJ rw pr m chk fs t
  | some false => allJ rw pr m chk fs e
  | none => allJ rw pr m chk (learn fs (rw c) true) t && allJ rw pr m chk (learn fs (rw c) false) e)
 | fs, .both t _ => allJ rw pr m chk fs t
 | _, .bad _ => false
theorem pick_J {rw : E -> E} {pr : Nat -> Bool} {m : Nat} {chk : Fs -> Out -> Bool} {ρ ρ' : Env} (hrw : ∀ c, inP pr m c = true -> (rw c).ev ρ = c.ev ρ') : ∀ {t : T Out} {fs : Fs} {o : Out}, allJ rw pr m chk fs t = true -> SX.FsOk ρ fs -> t.pickB ρ' = some o -> ∃ fs', SX.FsOk ρ fs' /\ chk fs' o = true
 | .ok o, fs, o', h, hf, e => by cases e; exact ⟨fs, hf, h⟩
 | .br c t e, fs, o', h, hf, hk => by
  simp only [allJ, bAnd] at h; obtain ⟨hin, h⟩ := h; have hc := hrw c hin; simp only [T.pickB] at hk; split at h
  ·rename_i hd
   have := decideD_spec hf (show decideD fs (rw c) = some true by unfold decideD; rw [hd])
   rw [if_pos (by rw [<- hc]; exact of_decide_eq_true this)] at hk
   exact pick_J hrw h hf hk
  ·rename_i hd
   have := decideD_spec hf (show decideD fs (rw c) = some false by unfold decideD; rw [hd])
   rw [if_neg (by rw [<- hc]; exact of_decide_eq_false this)] at hk
   exact pick_J hrw h hf hk
  ·rw [bAnd] at h
   split at hk
   ·rename_i h0
    exact pick_J hrw h.1 (learn_ok hf ⟨fun _ => rfl, fun _ => by rw [hc]; exact h0⟩) hk
   ·rename_i h0
    exact pick_J hrw h.2 (learn_ok hf ⟨fun h1 => absurd (by rw [<- hc]; exact h1) h0, fun h1 => Bool.noConfusion h1⟩) hk
 | .both t e, fs, o', h, hf, hk => pick_J (t := t) hrw h hf hk
 | .bad _, _, _, h, _, _ => by cases h
def allS {α : Type} (chk : Fs -> α -> Bool) : Fs -> T α -> Bool
 | fs, .ok o => chk fs o
 | fs, .br c t e => (match decideE fs c with
  | some true => allS chk fs t
  | some false => allS chk fs e
  | none => allS chk (learn fs c true) t && allS chk (learn fs c false) e)
 | fs, .both t _ => allS chk fs t
 | _, .bad _ => false
theorem pick_S {α : Type} {chk : Fs -> α -> Bool} {ρ : Env} : ∀ {t : T α} {fs : Fs} {o : α}, allS chk fs t = true -> SX.FsOk ρ fs -> t.pickB ρ = some o -> ∃ fs', SX.FsOk ρ fs' /\ chk fs' o = true
 | .ok o, fs, o', h, hf, e => by cases e; exact ⟨fs, hf, h⟩
 | .br c t e, fs, o', h, hf, hk => by
  simp only [allS] at h; simp only [T.pickB] at hk; split at h
  ·rename_i hd
   have := decideD_spec hf (show decideD fs c = some true by unfold decideD; rw [hd])
   rw [if_pos (of_decide_eq_true this)] at hk; exact pick_S h hf hk
  ·rename_i hd
   have := decideD_spec hf (show decideD fs c = some false by unfold decideD; rw [hd])
   rw [if_neg (of_decide_eq_false this)] at hk; exact pick_S h hf hk
  ·rw [bAnd] at h
   split at hk
   ·rename_i h0
    exact pick_S h.1 (learn_ok hf ⟨fun _ => rfl, fun _ => h0⟩) hk
   ·rename_i h0
    exact pick_S h.2 (learn_ok hf ⟨fun h1 => absurd h1 h0, fun h1 => Bool.noConfusion h1⟩) hk
 | .both t e, fs, o', h, hf, hk => pick_S (t := t) h hf hk
 | .bad _, _, _, h, _, _ => by cases h
def emptyN (fs : Fs) (e : E) : Bool :=
 match (bndOf e fs).lo, (bndOf e fs).hi with
 | some a, some b => decide (b - a < 10) && ruledOut fs e (b - a + 1).toNat a
 | _, _ => false
def absurdN (fs : Fs) : Fs -> Bool
 | [] => false
 | (c, _) :: l => (match c with
  | .bin .lt _ x (.lit _) => emptyN fs x
  | .bin .lt _ (.lit _) x => emptyN fs x
  | _ => false) || absurdN fs l
theorem emptyN_spec {ρ : Env} {fs : Fs} (hf : SX.FsOk ρ fs) {e : E} (h : emptyN fs e = true) : False := by
 unfold emptyN at h; split at h
 ·rename_i a b ha hb
  simp only [bAnd, dEq] at h; have hx := bndOf_has (ρ := ρ) (e := e) hf; have h1 := hx.1 a ha; have h2 := hx.2 b hb; exact ruledOut_spec hf h.2 (e.ev ρ) h1 (by omega) rfl
 ·cases h
theorem absurdN_spec {ρ : Env} {fs : Fs} (hf : SX.FsOk ρ fs) : ∀ {l : Fs}, absurdN fs l = true -> False
 | [], h => by cases h
 | (c, b) :: l, h => by
  simp only [absurdN, bOr] at h; rcases h with h | h
  ·split at h
   ·exact emptyN_spec hf h
   ·exact emptyN_spec hf h
   ·cases h
  ·exact absurdN_spec hf h
def noWay8 (fs : Fs) : Bool := noWay fs || absurdN fs fs
theorem noWay8_spec {ρ : Env} {fs : Fs} (hf : SX.FsOk ρ fs) (h : noWay8 fs = true) : False := by
 simp only [noWay8, bOr] at h; rcases h with h | h
 ·exact noWay_spec hf h
 ·exact absurdN_spec hf h
def endS (a a' : Fam) (g g' : Out -> Option (List E)) (o : Out) (fs : Fs) (o' : Out) : Bool := noWay8 fs || (match g o, g' o' with
 | some es, some es' => eqFs fs es' es
 | _, _ => false) && eqFs fs ((List.range a.nv).map (famS a' o')) ((List.range a.nv).map (famS a o))
def sameB (a a' : Fam) (g g' : Out -> Option (List E)) (ex : Fs) (tr' tr : T Out) : Bool := allC (fun p o => noWay (learnAll p ex) || allS (endS a a' g g' o) (learnAll p ex) tr') [] tr
theorem endS_at {a a' : Fam} {g g' : Out -> Option (List E)} {ρ : Env} {o o' : Out} {fs : Fs} (hf : SX.FsOk ρ fs) (h : endS a a' g g' o fs o' = true) :
  ∃ es es', g o = some es /\ g' o' = some es' /\ E.evs ρ es' = E.evs ρ es /\ ((List.range a.nv).map fun i => (famS a' o' i).ev ρ) = (List.range a.nv).map fun i => (famS a o i).ev ρ := by
 simp only [endS, bAnd, bOr] at h; rcases h with h | ⟨h, h2⟩
 ·exact (noWay8_spec hf h).elim
 split at h
 ·rename_i es es' h1 h1'
  have e2 := eqFs_spec hf h2; rw [evsMap, evsMap, List.map_map, List.map_map] at e2; exact ⟨es, es', h1, h1', eqFs_spec hf h, e2⟩
 ·cases h
theorem same_at {a a' : Fam} {g g' : Out -> Option (List E)} {ρ : Env} {ex : Fs} {tr tr' : T Out} (hex : SX.FsOk ρ ex) (h : sameB a a' g g' ex tr' tr = true) {o o' : Out} (ho : tr.pickB ρ = some o) (ho' : tr'.pickB ρ = some o') :
  ∃ es es', g o = some es /\ g' o' = some es' /\ E.evs ρ es' = E.evs ρ es /\ ((List.range a.nv).map fun i => (famS a' o' i).ev ρ) = (List.range a.nv).map fun i => (famS a o i).ev ρ := by
 obtain ⟨p, hp, hc⟩ := pick_C h (fsOk_nil.2 trivial) ho; have hl := learnAll_ok hp hex; rw [bOr] at hc; rcases hc with hc | hc
 ·exact (noWay_spec hl hc).elim
 ·obtain ⟨fs, hfs, hk⟩ := pick_S hc hl ho'
  exact endS_at hfs hk
def prN (A : Rel) (i : Nat) : Bool := Nat.blt i A.nv || (Nat.ble 100 i && Nat.blt (i - 100) A.jl.length)
def prL (i : Nat) : Bool := Nat.blt i 100
def Rel.ok (A : Rel) (m : Nat) : Bool := Nat.ble A.nv 100 && inPs (prN A) m A.L && A.F.all fun q => inP (prN A) m q.1
def sgR (A : Rel) (i : Nat) : E := if i < A.L.length then A.L.getD i (.lit 0) else .var (A.nv + (i - A.L.length))
def rwJ (A : Rel) (c : E) : E := c.sub (sgR A)
def sgN (A A2 : Rel) (a : Fam) (o : Out) (a' : Fam) (o' : Out) (v : Nat) : E := if v < A2.nv then famS a o v else if 100 <= v then (famS a' o' (A2.jl.getD (v - 100) 0)).sub (sgR A) else .var v
def prR (A : Rel) (np : Nat) (i : Nat) : Bool := Nat.blt i (A.L.length + np)
def outJ (A A2 : Rel) (m : Nat) (a a' : Fam) (o : Out) (fs : Fs) (o' : Out) : Bool :=
 A2.ok m && Nat.beq A2.nv A.nv && Nat.beq A2.L.length A.L.length && A2.jl.all (fun i => Nat.blt i A.L.length)
  && ((List.range A.L.length).all fun i => E.beq ((famS a' o' i).sub (sgR A)) ((A2.L.getD i (.lit 0)).sub (sgN A A2 a o a' o')) || eqF fs (rwJ A (famS a' o' i)) ((A2.L.getD i (.lit 0)).sub (sgN A A2 a o a' o')))
  && A2.F.all fun q => decideD fs (q.1.sub (sgN A A2 a o a' o')) == some q.2
def chkJ (A : Rel) (outs : List Rel) (m np : Nat) (a a' : Fam) (rs : List Sh) (o : Out) (es : List E) (fs : Fs) (o' : Out) : Bool := match leafE rs o' with
 | some es' => inPs (prR A np) m es' && inPs (prR A np) m ((List.range A.L.length).map (famS a' o')) && eqFs fs (es'.map (rwJ A)) es && outs.any fun A2 => outJ A A2 m a a' o fs o'
 | none => false
def jointB (A : Rel) (outs : List Rel) (m np : Nat) (a a' : Fam) (rs : List Sh) (ex : Fs) (tr' : T Out) (tr : T Out) : Bool := allC (fun p o => p.all (fun q => inP prL m q.1) && (match leafE rs o with
 | some es => noWay (learnAll p (A.F ++ ex)) || inPs prL m es && inPs prL m ((List.range A.nv).map (famS a o)) && allJ (rwJ A) (prR A np) m (chkJ A outs m np a a' rs o es) (learnAll p (A.F ++ ex)) tr'
 | none => false)) [] tr
section
variable {A : Rel} {outs : List Rel} {F G G' : Mng} {m np : Nat} {ns ms js xs : List Int}
theorem prog_agr (hG : ∀ f, f < m -> G f = F f) (l : List Int) : Agr prL m (envOf G l) (envP F l js) := ⟨fun i hi => by
 show l.getD i 0 = if i < 100 then _ else _
 rw [if_pos (by simpa [prL, blt_iff] using hi)], hG⟩
theorem rel_agr (hlen : ns.length = A.nv) (h100 : A.nv <= 100) : Agr (prN A) m (envP F ns js) (envP F (ns ++ xs) js) := ⟨fun i hi => by
 show (if i < 100 then ns.getD i 0 else _) = if i < 100 then (ns ++ xs).getD i 0 else _
 simp only [prN, bOr, bAnd, blt_iff, dEq] at hi
 by_cases c : i < 100
 ·rw [if_pos c, if_pos c]
  rcases hi with hi | hi
  ·rw [gDe, gDe, lAp (by omega)]
  ·have := Nat.le_of_ble_eq_true hi.1; omega
 ·rw [if_neg c, if_neg c], fun _ _ => rfl⟩
theorem ref_agr (hR : RelOk A F ns ms js) (hA : A.ok m = true) (hnp : A.nv + np <= 100) (hG : ∀ f, f < m -> G' f = F f) : Agr (prR A np) m (envSub (envP F (ns ++ xs) js) (sgR A)) (envOf G' (ms ++ xs)) := by
 simp only [Rel.ok, bAnd] at hA; obtain ⟨⟨h1, h2⟩, _⟩ := hA; have h100 := Nat.le_of_ble_eq_true h1; have hml : ms.length = A.L.length := by rw [hR.nums, evs_len]
 refine ⟨fun i hi => ?_, fun f hf => (hG f hf).symm⟩
 rw [prR, blt_iff, dEq] at hi; show (sgR A i).ev _ = (ms ++ xs).getD i 0; unfold sgR; split
 ·rename_i hl
  rw [gDe (l := ms ++ xs), lAp (by omega), <- gDe, hR.nums, evs_inP (rel_agr hR.len h100) A.L h2, evsGetD]
 ·rename_i hl
  show (if A.nv + (i - A.L.length) < 100 then (ns ++ xs).getD (A.nv + (i - A.L.length)) 0 else _) = _
  rw [if_pos (by omega), gDe, gDe, List.getElem?_append_right (by have := hR.len; omega), List.getElem?_append_right (by omega), hml, hR.len]
  congr 2; omega
theorem joint_at {a a' : Fam} {rs : List Sh} {ex : Fs} {tr tr' : T Out} (hA : A.ok m = true) (hnp : A.nv + np <= 100) (hav : a.nv = A.nv) (hav' : a'.nv = A.L.length) (hG : ∀ f, f < m -> G f = F f) (hG' : ∀ f, f < m -> G' f = F f) (hR : RelOk A F ns ms js) (hex : SX.FsOk (envP F (ns ++ xs) js) ex)
  (hB : jointB A outs m np a a' rs ex tr' tr = true) {o o' : Out} (ho : tr.pickB (envOf G (ns ++ xs)) = some o) (ho' : tr'.pickB (envOf G' (ms ++ xs)) = some o') :
  ∃ es es' js', leafE rs o = some es /\ leafE rs o' = some es' /\ E.evs (envOf G' (ms ++ xs)) es' = E.evs (envOf G (ns ++ xs)) es /\ ∃ A2 ∈ outs, RelOk A2 F (famNs a o (envOf G (ns ++ xs))) (famNs a' o' (envOf G' (ms ++ xs))) js' := by
 have hA' := hA; simp only [Rel.ok, bAnd] at hA'; obtain ⟨⟨h1, h2⟩, h3⟩ := hA'; have h100 := Nat.le_of_ble_eq_true h1; have agP := prog_agr (js := js) hG (ns ++ xs); have agN := rel_agr (m := m) (F := F) (js := js) (xs := xs) hR.len h100; have agR := ref_agr (xs := xs) hR hA hnp hG'
 have hrw : ∀ c, inP (prR A np) m c = true -> (rwJ A c).ev (envP F (ns ++ xs) js) = c.ev (envOf G' (ms ++ xs)) := fun c hc => by
  unfold rwJ; rw [E.sub_ev, ev_inP agR c hc]
 obtain ⟨p, hp, hc⟩ := pick_C hB (fsOk_nil.2 trivial) ho; rw [bAnd] at hc; obtain ⟨hpin, hc⟩ := hc; have hpF := facts_inP agP hpin hp; split at hc
 rotate_left
 ·cases hc
 rename_i es hes; have hall0 := learnAll_ok hpF (fsOk_app (facts_inP agN h3 hR.facts) hex); simp only [bAnd, bOr] at hc; rcases hc with hc | hc
 ·exact (noWay_spec hall0 hc).elim
 obtain ⟨⟨hein, hnin⟩, hJ⟩ := hc; obtain ⟨fs, hfs, hk⟩ := pick_J hrw hJ hall0 ho'; unfold chkJ at hk; split at hk
 rotate_left
 ·cases hk
 rename_i es' hes'; simp only [bAnd] at hk; obtain ⟨⟨⟨k1, k2⟩, k4⟩, k8⟩ := hk; obtain ⟨A2, hA2, k8⟩ := List.any_eq_true.1 k8; simp only [outJ, bAnd, beq_iff, dEq] at k8; obtain ⟨⟨⟨⟨⟨hA2ok, k9⟩, k10⟩, k3⟩, k5⟩, k6⟩ := k8; have hA2' := hA2ok; simp only [Rel.ok, bAnd] at hA2'; obtain ⟨⟨g1, g2⟩, g3⟩ := hA2'; have g100 := Nat.le_of_ble_eq_true g1
 have hnum' : ∀ i, i < A.L.length -> (famS a' o' i).ev (envOf G' (ms ++ xs)) = ((famS a' o' i).sub (sgR A)).ev (envP F (ns ++ xs) js) := fun i hi => by
  have hin : inP (prR A np) m (famS a' o' i) = true := by
   have hall : ∀ (l : List E), inPs (prR A np) m l = true -> ∀ e ∈ l, inP (prR A np) m e = true := fun l => by
    induction l with
    | nil => exact fun _ e he => by cases he
    | cons x l ih =>
     intro h e he; simp only [inPs, bAnd] at h; rcases mCo.1 he with rfl | he
     ·exact h.1
     ·exact ih h.2 e he
   exact hall _ k2 _ (List.mem_map.2 ⟨i, mRa.2 hi, rfl⟩)
  rw [E.sub_ev, ev_inP agR _ hin]
 have hnum : ∀ v, v < A.nv -> (famS a o v).ev (envOf G (ns ++ xs)) = (famS a o v).ev (envP F (ns ++ xs) js) := fun v hv => by
  have hall : ∀ (l : List E), inPs prL m l = true -> ∀ e ∈ l, inP prL m e = true := fun l => by
   induction l with
   | nil => exact fun _ e he => by cases he
   | cons x l ih =>
    intro h e he; simp only [inPs, bAnd] at h; rcases mCo.1 he with rfl | he
    ·exact h.1
    ·exact ih h.2 e he
  exact ev_inP agP _ (hall _ hnin _ (List.mem_map.2 ⟨v, mRa.2 hv, rfl⟩))
 -- the numbers behind
 let js' : List Int := A2.jl.map fun i => (famS a' o' i).ev (envOf G' (ms ++ xs))
 have agN' : Agr (prN A2) m (envSub (envP F (ns ++ xs) js) (sgN A A2 a o a' o')) (envP F (famNs a o (envOf G (ns ++ xs))) js') := ⟨fun v hv => by
  show (sgN A A2 a o a' o' v).ev _ = if v < 100 then (famNs a o _).getD v 0 else js'.getD (v - 100) 0
  simp only [prN, bOr, bAnd, blt_iff, dEq] at hv; unfold sgN
  by_cases c : v < A2.nv
  ·rw [if_pos c, if_pos (by omega), <- hnum v (by omega)]
   unfold famNs; rw [gDe, lMp, lRa (by omega)]
   rfl
  ·have hv := hv.resolve_left c
   have c100 : 100 <= v := Nat.le_of_ble_eq_true hv.1; have cj := hv.2; rw [if_neg c, if_pos c100, if_neg (by omega)]
   ·have hm : A2.jl.getD (v - 100) 0 ∈ A2.jl := by
     rw [gDe, lGe cj]; exact List.getElem_mem _
    have hi := lAl.1 k3 _ hm; rw [blt_iff, dEq] at hi; rw [<- hnum' _ hi]; show _ = (A2.jl.map fun i => (famS a' o' i).ev (envOf G' (ms ++ xs))).getD (v - 100) 0
    rw [gDe (l := A2.jl.map _), lMp, lGe cj, gDe, lGe cj]; rfl, fun _ _ => rfl⟩
 have hall : ∀ (p : Nat -> Bool) (l : List E), inPs p m l = true -> ∀ e ∈ l, inP p m e = true := fun p l => by
  induction l with
  | nil => exact fun _ e he => by cases he
  | cons x l ih =>
   intro h e he; simp only [inPs, bAnd] at h; rcases mCo.1 he with rfl | he
   ·exact h.1
   ·exact ih h.2 e he
 have hmap : ∀ l : List E, inPs (prR A np) m l = true -> E.evs (envP F (ns ++ xs) js) (l.map (rwJ A)) = E.evs (envOf G' (ms ++ xs)) l := fun l => by
  induction l with
  | nil => exact fun _ => rfl
  | cons x l ih =>
   intro h; simp only [inPs, bAnd] at h; show (rwJ A x).ev _ :: E.evs _ (l.map (rwJ A)) = x.ev _ :: E.evs _ l; rw [hrw x h.1, ih h.2]
 refine ⟨es, es', js', hes, hes', ?_, A2, hA2, ⟨by unfold famNs; rw [List.length_map, List.length_range, hav, k9], ?_, ?_⟩⟩
 ·rw [<- hmap es' k1, evs_inP agP es hein]
  exact eqFs_spec hfs k4
 ·unfold famNs
  rw [hav']; refine List.ext_getElem? fun i => ?_
  by_cases hi : i < A.L.length
  ·rw [lMp, lRa hi]
   have h5 := lAl.1 k5 i (mRa.2 hi); have hin : inP (prN A2) m (A2.L.getD i (.lit 0)) = true := hall _ _ g2 _ (by rw [gDe, lGe (by omega)]; exact List.getElem_mem _)
   have hev : (famS a' o' i).ev (envOf G' (ms ++ xs)) = ((A2.L.getD i (.lit 0)).sub (sgN A A2 a o a' o')).ev (envP F (ns ++ xs) js) := by
    rw [bOr] at h5; rcases h5 with h5 | h5
    ·rw [hnum' i hi, E.beq_eq _ _ h5]
    ·rw [<- eqF_spec hfs h5, hrw]
     exact hall _ _ k2 _ (List.mem_map.2 ⟨i, mRa.2 hi, rfl⟩)
   rw [E.sub_ev, ev_inP agN' _ hin] at hev; show some ((famS a' o' i).ev _) = _; rw [hev, lGe (by rw [evs_len]; omega)]
   have := evsGetD (ρ := envP F (famNs a o (envOf G (ns ++ xs))) js') A2.L i; rw [gDe (l := E.evs _ _), lGe (by rw [evs_len]; omega)] at this
   exact congrArg some this.symm
  ·rw [lNo (by simp; omega), lNo (by rw [evs_len]; omega)]
 ·intro q hq
  have hd := lAl.1 k6 q hq; rw [beq_iff_eq] at hd; have := decideD_spec hfs hd; have hin := lAl.1 g3 q hq; rw [E.sub_ev, ev_inP agN' _ hin] at this; constructor
  ·intro hn; rw [<- this]; exact decide_eq_true hn
  ·intro hb; rw [hb] at this; exact of_decide_eq_true this
end
end
namespace Rf
open Go Go.RowKit SX
def stSh : Sh := .agg [.int .i64, .int .i64]
def insRs : List Sh := [i1, .one .bool]
def sumsN : Sums := fun _ _ => none
def names38 : Mng := fun _ _ _ => 0
def sizeF (k : Int) : Int := if k = 0 then 44 else if k = 1 then 44 else if k = 2 then 54 else if k = 3 then 54 else if k = 8 then 44 else if k = 9 then 54 else if k = 10 then 54 else if k = 11 then 64 else 0
def sizeA : Sm := ⟨100, 1, [i1], [i1]⟩
def sizeB : Sm := ⟨111, 1, [i1], [i1]⟩
def namesZ : Mng := fun f j ns => if f = 1 then sizeF (ns.getD 0 0) else 0
theorem sizeF_fits (k : Int) : (Lit.int .i64 (sizeF k)).wf = true := by
 unfold sizeF
 repeat' split
 all_goals decide
def retI (t : T Out) : T SV := t.map fun o => o.v
def cI (x : Int) : T SV := .ok (.int .i64 (.lit x))
def isK (x : Int) (t e : T SV) : T SV := .br (.bin .eq .i64 (.var 0) (.lit x)) t e
theorem sizeA_tree : retI (callF Tryz.prog (tabGl [] 0) okF (fun _ _ => none) noKeep 50 20 100 (varShs [i1] 0) (tabHp []) []) =
  isK 0 (cI 44) (isK 1 (cI 44) (isK 2 (cI 54) (isK 3 (cI 54) (isK 8 (cI 44) (isK 9 (cI 54) (isK 10 (cI 54) (isK 11 (cI 64) (cI 0)))))))) := by kernel_rfl
theorem sizeB_tree : retI (callF Tryz.prog (tabGl [] 0) okF (fun _ _ => none) noKeep 50 20 111 (varShs [i1] 0) (tabHp []) []) =
  isK 0 (cI 44) (isK 1 (cI 44) (isK 8 (cI 44) (isK 2 (cI 54) (isK 3 (cI 54) (isK 9 (cI 54) (isK 10 (cI 54) (isK 11 (cI 64) (cI 0)))))))) := by kernel_rfl
theorem isK_holds {ρ : Env} {x : Int} {t e : T SV} {Q : SV -> Prop} : (isK x t e).holds ρ Q ↔ (ρ.v 0 = x -> t.holds ρ Q) /\ (ρ.v 0 ≠ x -> e.holds ρ Q) := by
 unfold isK; simp only [T.holds]; have h := ev_eq ρ .i64 (.var 0) (.lit x)
 have h' : (E.bin .eq .i64 (.var 0) (.lit x)).ev ρ = 0 ↔ ρ.v 0 ≠ x := by
  rw [<- Decidable.not_iff_not]; exact h.trans (by show ρ.v 0 = x ↔ _; simp)
 rw [h, h']; exact Iff.rfl
theorem sizeA_ok (v : List Int) (w : World) : SmOk Tryz.prog (envOf namesZ v) w (fun _ => False) sizeA :=
 smOk_of (sums := fun _ _ => none) (okF := okF) (keep := noKeep) (fuel := 50) (n := 20) [] (by decide) (fun w _ => tabs_nil w) mixed okF_ok (fun _ _ _ => sums_none _ _ _ _) v fun ns hns => by
  refine ⟨⟨sizeF_fits _, trivial⟩, ?_⟩
  have key : (retI (callF Tryz.prog (tabGl [] 0) okF (fun _ _ => none) noKeep 50 20 100 (varShs [i1] 0) (tabHp []) [])).holds (envOf namesZ ns) fun s => s.flat = true /\ s.ev (envOf namesZ ns) β0 = packV (shVals [i1] (fnVals (namesZ 1) ns (shSize [i1]) 0)) := by
   rw [sizeA_tree]
   have hv : ∀ x : Int, sizeF (ns.getD 0 0) = x -> (cI x).holds (envOf namesZ ns) fun s => s.flat = true /\ s.ev (envOf namesZ ns) β0 = packV (shVals [i1] (fnVals (namesZ 1) ns (shSize [i1]) 0)) := fun x hx => by
    refine ⟨rfl, ?_⟩; subst hx; rfl
   have e0 : (envOf namesZ ns).v 0 = ns.getD 0 0 := rfl; simp only [isK_holds, e0]; generalize ns.getD 0 0 = k at *; refine ⟨fun h => hv _ (by simp [sizeF, h]), fun h0 => ⟨fun h => hv _ (by simp [sizeF, h]), fun h1 => ⟨fun h => hv _ (by simp [sizeF, h]), fun h2 => ⟨fun h => hv _ (by simp [sizeF, h]), fun h3 => ⟨fun h => hv _ (by simp [sizeF, h]), fun h4 => ⟨fun h => hv _ (by simp [sizeF, h]), fun h5 => ⟨fun h => hv _ (by simp [sizeF, h]), fun h6 => ⟨fun h => hv _ (by simp [sizeF, h]), fun h7 => hv _ (by simp [sizeF, h0, h1, h2, h3, h4, h5, h6, h7])⟩⟩⟩⟩⟩⟩⟩⟩
  exact T.holds_map.1 key
theorem sizeB_ok (v : List Int) (w : World) : SmOk Tryz.prog (envOf namesZ v) w (fun _ => False) sizeB :=
 smOk_of (sums := fun _ _ => none) (okF := okF) (keep := noKeep) (fuel := 50) (n := 20) [] (by decide) (fun w _ => tabs_nil w) mixed okF_ok (fun _ _ _ => sums_none _ _ _ _) v fun ns hns => by
  refine ⟨⟨sizeF_fits _, trivial⟩, ?_⟩
  have key : (retI (callF Tryz.prog (tabGl [] 0) okF (fun _ _ => none) noKeep 50 20 111 (varShs [i1] 0) (tabHp []) [])).holds (envOf namesZ ns) fun s => s.flat = true /\ s.ev (envOf namesZ ns) β0 = packV (shVals [i1] (fnVals (namesZ 1) ns (shSize [i1]) 0)) := by
   rw [sizeB_tree]
   have hv : ∀ x : Int, sizeF (ns.getD 0 0) = x -> (cI x).holds (envOf namesZ ns) fun s => s.flat = true /\ s.ev (envOf namesZ ns) β0 = packV (shVals [i1] (fnVals (namesZ 1) ns (shSize [i1]) 0)) := fun x hx => by
    refine ⟨rfl, ?_⟩; subst hx; rfl
   have e0 : (envOf namesZ ns).v 0 = ns.getD 0 0 := rfl; simp only [isK_holds, e0]; generalize ns.getD 0 0 = k at *; refine ⟨fun h => hv _ (by simp [sizeF, h]), fun h0 => ⟨fun h => hv _ (by simp [sizeF, h]), fun h1 => ⟨fun h => hv _ (by simp [sizeF, h]), fun h2 => ⟨fun h => hv _ (by simp [sizeF, h]), fun h3 => ⟨fun h => hv _ (by simp [sizeF, h]), fun h4 => ⟨fun h => hv _ (by simp [sizeF, h]), fun h5 => ⟨fun h => hv _ (by simp [sizeF, h]), fun h6 => ⟨fun h => hv _ (by simp [sizeF, h]), fun h7 => hv _ (by simp [sizeF, h0, h1, h2, h3, h4, h5, h6, h7])⟩⟩⟩⟩⟩⟩⟩⟩
  exact T.holds_map.1 key
def ptSh : Sh := .agg [.int .i64, .int .i64, .int .i64, .int .i64, .int .u64, .int .i64, .int .i64, .int .i64, .int .i64, .int .i64, .int .u64, .int .i64, .int .i64, .int .i64, .int .i64, .int .i64, .int .i64, .int .i64, .int .u64, .int .i64, .int .i64]
def sumsZ : Sums := sumsOf [sizeA, sizeB]
theorem sumsZ_okB (ρ : Env) (h : ρ.fn 1 = namesZ 1) (w : World) : SumsOk Tryz.prog ρ w (fun _ => False) sumsZ :=
 sumsOf_ok fun s hs => by
  simp only [mCo, List.not_mem_nil, or_false] at hs; rcases hs with rfl | rfl
  ·exact SmOk.congr (ρ := envOf namesZ []) (show ρ.fn 1 = (envOf namesZ []).fn 1 from h) (sizeA_ok [] w)
  ·exact SmOk.congr (ρ := envOf namesZ []) (show ρ.fn 1 = (envOf namesZ []).fn 1 from h) (sizeB_ok [] w)
def kA : Sm := ⟨70, 2, [ptSh], [i1]⟩
def kB : Sm := ⟨75, 2, [ptSh], [i1]⟩
def chkT : T Out := callF Tryz.prog [] okF sumsZ noKeep 80 30 70 (varShs [ptSh] 0) .nil (varFacts [ptSh] 0)
def namesK : Mng := fun f => if f = 2 then autoF namesZ [i1] chkT else namesZ f
theorem but2 : But 2 namesK namesZ := fun f hf => if_neg hf
theorem chk_good : chkT.good 2 [i1] = true := by kernel_rfl
theorem chk_both : ((both2 Tryz.prog okF sumsZ noKeep 80 30 70 75 [ptSh]).all fun p => sameO [i1] p.1 p.2) = true := by kernel_rfl
theorem kA_ok (ρ : Env) (h : ρ.fn = namesK) (w : World) : SmOk Tryz.prog ρ w (fun _ => False) kA :=
 smAuto (okF := okF) (sums := sumsZ) (keep := noKeep) (fuel := 80) (n := 30) (G := namesZ) mixed okF_ok but2 (fun ns w' _ => sumsZ_okB _ rfl w') h (fun ns j => congrFun (congrFun (if_pos rfl : namesK 2 = autoF namesZ [i1] chkT) j) ns) chk_good
theorem kB_ok (ρ : Env) (h : ρ.fn = namesK) (w : World) : SmOk Tryz.prog ρ w (fun _ => False) kB :=
 smAuto2 (s := kA) (okF := okF) (sums := sumsZ) (keep := noKeep) (fuel := 80) (n := 30) (G := namesZ) mixed okF_ok but2 (fun ns w' _ => sumsZ_okB _ rfl w') h (fun ns j => congrFun (congrFun (if_pos rfl : namesK 2 = autoF namesZ [i1] chkT) j) ns) chk_good chk_both
section
variable {ρ : Env} {α : Type} {t e : T α} {Q : α -> Prop} {k : IntKind} {a b : E}
theorem br_lt : (T.br (.bin .lt k a b) t e).holds ρ Q ↔ (a.ev ρ < b.ev ρ -> t.holds ρ Q) /\ (¬ a.ev ρ < b.ev ρ -> e.holds ρ Q) := by
 have h1 : (E.bin .lt k a b).ev ρ = if a.ev ρ < b.ev ρ then 1 else 0 := rfl
 simp only [T.holds, h1]
 by_cases h : a.ev ρ < b.ev ρ <;> simp [h]
theorem br_eq : (T.br (.bin .eq k a b) t e).holds ρ Q ↔ (a.ev ρ = b.ev ρ -> t.holds ρ Q) /\ (¬ a.ev ρ = b.ev ρ -> e.holds ρ Q) := by
 have h1 : (E.bin .eq k a b).ev ρ = if a.ev ρ = b.ev ρ then 1 else 0 := rfl
 simp only [T.holds, h1]
 by_cases h : a.ev ρ = b.ev ρ <;> simp [h]
end
theorem w64 (x : Int) : IntKind.u64.wrap x = x % 18446744073709551616 := by simp [IntKind.wrap, IntKind.bits, IntKind.signed]
theorem i64w {x : Int} (h : -9223372036854775808 <= x /\ x <= 9223372036854775807) : IntKind.i64.wrap x = x := wrap_fit ⟨by simpa [IntKind.min, IntKind.bits, IntKind.signed] using h.1, by simpa [IntKind.max, IntKind.bits, IntKind.signed] using h.2⟩
theorem ev_bin (ρ : Env) (o : BOp) (k : IntKind) (a b : E) : (E.bin o k a b).ev ρ = o.ev k (a.ev ρ) (b.ev ρ) := rfl
theorem and_low (x : Int) (h : 0 <= x) (h' : x < 18446744073709551616) : BOp.and.ev .u64 x 4294967295 = x % 4294967296 := by
 have := and_mask .u64 x (m := 32) (by decide)
 rw [show ((2 ^ 32 : Nat) - 1 : Int) = 4294967295 by decide] at this
 rw [this, show ((2 ^ 32 : Nat) : Int) = 4294967296 by decide, iDv _ (by decide)]
 omega
theorem shr32 (x : Int) : BOp.shr.ev .u64 x 32 = x / 4294967296 := by
 show x.fdiv (2 ^ Nat.min (32 : Int).toNat IntKind.u64.bits) = _; rw [show Nat.min (32 : Int).toNat IntKind.u64.bits = 32 by decide, iDv _ (by decide)]
 rfl
theorem quo32 {x : Int} (h : 0 <= x) (h' : x < 18446744073709551616) : BOp.quo.ev .u64 x 4294967296 = x / 4294967296 := by
 show IntKind.u64.wrap (x.tdiv 4294967296) = _; rw [w64, Int.tdiv_eq_ediv_of_nonneg h]; omega
theorem rem32 {x : Int} (h : 0 <= x) : BOp.rem.ev .u64 x 4294967296 = x % 4294967296 := Int.tmod_eq_emod_of_nonneg h
def eX : E := .bin .conv .u64 (.bin .add .i64 (.var 0) (.lit 2208988800)) (.lit 0)
def eMid : E := .bin .add .u64 (.bin .mul .u64 (.bin .shr .u64 eX (.lit 32)) (.lit 1000000000)) (.bin .shr .u64 (.bin .mul .u64 (.bin .and .u64 eX (.lit 4294967295)) (.lit 1000000000)) (.lit 32))
def eHi : E := .bin .add .u64 (.bin .add .u64 (.bin .mul .u64 (.bin .shr .u64 eX (.lit 32)) (.lit 0)) (.bin .shr .u64 eMid (.lit 32))) (.bin .shr .u64 (.bin .add .u64 (.bin .and .u64 eMid (.lit 4294967295)) (.bin .mul .u64 (.bin .and .u64 eX (.lit 4294967295)) (.lit 0))) (.lit 32))
def eLo : E := .bin .mul .u64 eX (.lit 1000000000)
def rMid : E := .bin .add .u64 (.bin .mul .u64 (.bin .quo .u64 eX (.lit 4294967296)) (.lit 1000000000)) (.bin .quo .u64 (.bin .mul .u64 (.bin .rem .u64 eX (.lit 4294967296)) (.lit 1000000000)) (.lit 4294967296))
def rLow : E := .bin .add .u64 (.bin .mul .u64 (.bin .rem .u64 eX (.lit 4294967296)) (.lit 0)) (.bin .rem .u64 rMid (.lit 4294967296))
def rHi : E := .bin .add .u64 (.bin .add .u64 (.bin .mul .u64 (.bin .quo .u64 eX (.lit 4294967296)) (.lit 0)) (.bin .quo .u64 rMid (.lit 4294967296))) (.bin .quo .u64 rLow (.lit 4294967296))
def rLo : E := .bin .add .u64 (.bin .mul .u64 (.bin .rem .u64 rLow (.lit 4294967296)) (.lit 4294967296)) (.bin .rem .u64 (.bin .mul .u64 (.bin .rem .u64 eX (.lit 4294967296)) (.lit 1000000000)) (.lit 4294967296))
def noT : T SV := .ok (.tuple [.int .i64 (.lit 0), .bool (.lit 0)])
def yesT (e : E) : T SV := .ok (.tuple [.int .i64 e, .bool (.lit 1)])
def vlt (a b : E) (t e : T SV) : T SV := .br (.bin .lt .i64 a b) t e
def eT : E := .bin .add .i64 (.bin .conv .i64 eLo (.lit 0)) (.var 1)
def eOut : E := .bin .sub .i64 eT (.lit 3900000000000000000)
def rT : E := .bin .conv .i64 rLo (.lit 0)
def rOut : E := .bin .sub .i64 (.bin .add .i64 rT (.var 1)) (.lit 3900000000000000000)
def insTreeA : T SV := vlt (.var 0) (.lit 0) noT (vlt (.lit 281474976710655) (.var 0) noT (vlt (.var 1) (.lit 0) noT (vlt (.var 1) (.lit 1000000000)
 (.br (.bin .eq .u64 eHi (.lit 0)) (.br (.bin .lt .u64 (.lit 9223372036854775807) eLo) noT (.br (.bin .eq .i64 (.bin .lt .i64 eT (.lit 0)) (.bin .lt .i64 (.bin .conv .i64 eLo (.lit 0)) (.lit 0)))
  (vlt (.lit 8000000000000000000) eT noT (vlt eOut (.lit (-4503599627370496)) noT (vlt (.lit 4503599627370496) eOut noT (yesT eOut)))) noT)) noT) noT)))
def insTreeB : T SV := vlt (.var 0) (.lit 0) noT (vlt (.var 0) (.lit 281474976710656) (vlt (.var 1) (.lit 0) noT (vlt (.var 1) (.lit 1000000000)
 (.br (.bin .lt .u64 (.lit 0) rHi) noT (.br (.bin .lt .u64 (.lit 9223372036854775808) rLo) noT
  (vlt (.bin .sub .i64 (.lit 8000000000000000000) (.var 1)) rT noT (vlt rOut (.lit (-4503599627370496)) noT (vlt (.lit 4503599627370496) rOut noT (yesT rOut)))))) noT)) noT)
theorem insA_tree : retI (callF Tryz.prog [] okF sumsN noKeep 80 30 103 (varShs [stSh] 0) .nil (varFacts [stSh] 0)) = insTreeA := by kernel_rfl
theorem insB_tree : retI (callF Tryz.prog [] okF sumsN noKeep 80 30 116 (varShs [stSh] 0) .nil (varFacts [stSh] 0)) = insTreeB := by kernel_rfl
def stT (s n : Int) : Int := (s + 2208988800) * 1000000000 + n
def stOk (s n : Int) : Prop := 0 <= s /\ s < 281474976710656 /\ 0 <= n /\ n < 1000000000 /\ stT s n <= 8000000000000000000 /\ -4503599627370496 <= stT s n - 3900000000000000000 /\ stT s n - 3900000000000000000 <= 4503599627370496
instance (s n : Int) : Decidable (stOk s n) := by unfold stOk; infer_instance
def insF (j : Nat) (ns : List Int) : Int := if stOk (ns.getD 0 0) (ns.getD 1 0) then (if j = 0 then stT (ns.getD 0 0) (ns.getD 1 0) - 3900000000000000000 else 1) else 0
section
variable {ρ : Env} {s n : Int}
theorem eX_ev (h0 : ρ.v 0 = s) (h1 : 0 <= s) (h2 : s < 281474976710656) : eX.ev ρ = s + 2208988800 := by
 show IntKind.u64.wrap (IntKind.i64.wrap (ρ.v 0 + 2208988800)) = _; rw [h0, i64w (by omega), w64]
 omega
theorem mul_ev (a b : Int) : BOp.mul.ev .u64 a b = (a * b) % 18446744073709551616 := w64 _
theorem add_ev (a b : Int) : BOp.add.ev .u64 a b = (a + b) % 18446744073709551616 := w64 _
theorem m64 {x : Int} (h : 0 <= x) (h' : x < 18446744073709551616) : x % 18446744073709551616 = x := Int.emod_eq_of_lt h h'
structure Halves (x : Int) where
 h : Int
 l : Int
 a : Int
 b : Int
 hx : x = 4294967296 * h + l
 h0 : 0 <= h
 h1 : h < 131072
 l0 : 0 <= l
 l1 : l < 4294967296
 la : l * 1000000000 = 4294967296 * a + b
 a0 : 0 <= a
 a1 : a < 1000000000
 b0 : 0 <= b
 b1 : b < 4294967296
def halves (x : Int) (h1 : 0 <= x) (h2 : x < 562949953421312) : Halves x :=
 ⟨x / 4294967296, x % 4294967296, x % 4294967296 * 1000000000 / 4294967296, x % 4294967296 * 1000000000 % 4294967296, by omega, by omega, by omega, by omega, by omega, by omega, by omega, by omega, by omega, by omega⟩
section
variable {x : Int} (H : Halves x)
theorem Halves.dh : x / 4294967296 = H.h := by have := H.hx; have := H.l0; have := H.l1; omega
theorem Halves.dl : x % 4294967296 = H.l := by have := H.hx; have := H.l0; have := H.l1; omega
theorem Halves.da : H.l * 1000000000 / 4294967296 = H.a := by have := H.la; have := H.b0; have := H.b1; omega
theorem Halves.db : H.l * 1000000000 % 4294967296 = H.b := by have := H.la; have := H.b0; have := H.b1; omega
theorem Halves.mid : 0 <= H.h * 1000000000 + H.a /\ H.h * 1000000000 + H.a < 281474976710656 := by have := H.h0; have := H.h1; have := H.a0; have := H.a1; omega
theorem Halves.hi : x * 1000000000 / 18446744073709551616 = (H.h * 1000000000 + H.a) / 4294967296 := by
 have := H.hx; have := H.la; have := H.b0; have := H.b1; have e : x * 1000000000 = 4294967296 * (H.h * 1000000000 + H.a) + H.b := by omega
 omega
theorem Halves.lo : x * 1000000000 % 18446744073709551616 = (H.h * 1000000000 + H.a) % 4294967296 * 4294967296 + H.b := by
 have := H.hx; have := H.la; have := H.b0; have := H.b1; have e : x * 1000000000 = 4294967296 * (H.h * 1000000000 + H.a) + H.b := by omega
 omega
end
theorem eMid_ev {x : Int} (hx : eX.ev ρ = x) (h1 : 0 <= x) (h2 : x < 562949953421312) (H : Halves x) : eMid.ev ρ = H.h * 1000000000 + H.a := by
 have hm := H.mid; have q1 := H.h0; have q2 := H.h1; have q3 := H.l0; have q4 := H.l1; unfold eMid; simp only [ev_bin, hx]; show BOp.add.ev .u64 (BOp.mul.ev .u64 (BOp.shr.ev .u64 x 32) 1000000000) (BOp.shr.ev .u64 (BOp.mul.ev .u64 (BOp.and.ev .u64 x 4294967295) 1000000000) 32) = _; rw [shr32, shr32, and_low x h1 (by omega), H.dh, H.dl, mul_ev, mul_ev, m64 (x := H.l * 1000000000) (by omega) (by omega), H.da, m64 (x := H.h * 1000000000) (by omega) (by omega), add_ev, m64 (by omega) (by omega)]
theorem eHi_ev {x : Int} (hx : eX.ev ρ = x) (h1 : 0 <= x) (h2 : x < 562949953421312) : eHi.ev ρ = x * 1000000000 / 18446744073709551616 := by
 have H := halves x h1 h2; have hm := eMid_ev hx h1 h2 H; have hm' := H.mid; rw [H.hi]; unfold eHi; simp only [ev_bin, hx, hm]; generalize H.h * 1000000000 + H.a = m at *; show BOp.add.ev .u64 (BOp.add.ev .u64 (BOp.mul.ev .u64 (BOp.shr.ev .u64 x 32) 0) (BOp.shr.ev .u64 m 32)) (BOp.shr.ev .u64 (BOp.add.ev .u64 (BOp.and.ev .u64 m 4294967295) (BOp.mul.ev .u64 (BOp.and.ev .u64 x 4294967295) 0)) 32) = _
 rw [shr32, shr32, shr32, and_low m hm'.1 (by omega), mul_ev, mul_ev, Int.mul_zero, Int.mul_zero, Int.zero_emod, add_ev, add_ev, add_ev, Int.zero_add, Int.add_zero, m64 (x := m / 4294967296) (by omega) (by omega), m64 (x := m % 4294967296) (by omega) (by omega),
  show m % 4294967296 / 4294967296 = 0 by omega, Int.add_zero, m64 (by omega) (by omega)]
theorem eLo_ev {x : Int} (hx : eX.ev ρ = x) : eLo.ev ρ = x * 1000000000 % 18446744073709551616 := by
 unfold eLo; simp only [ev_bin, hx]; exact mul_ev _ _
theorem rMid_ev {x : Int} (hx : eX.ev ρ = x) (h1 : 0 <= x) (h2 : x < 562949953421312) (H : Halves x) : rMid.ev ρ = H.h * 1000000000 + H.a := by
 have hm := H.mid; have q1 := H.h0; have q2 := H.h1; have q3 := H.l0; have q4 := H.l1; unfold rMid; simp only [ev_bin, hx]; show BOp.add.ev .u64 (BOp.mul.ev .u64 (BOp.quo.ev .u64 x 4294967296) 1000000000) (BOp.quo.ev .u64 (BOp.mul.ev .u64 (BOp.rem.ev .u64 x 4294967296) 1000000000) 4294967296) = _; rw [quo32 h1 (by omega), rem32 h1, H.dh, H.dl, mul_ev, mul_ev, m64 (x := H.l * 1000000000) (by omega) (by omega), quo32 (by omega) (by omega), H.da, m64 (x := H.h * 1000000000) (by omega) (by omega), add_ev, m64 (by omega) (by omega)]
theorem rLow_ev {x : Int} (hx : eX.ev ρ = x) (h1 : 0 <= x) (h2 : x < 562949953421312) (H : Halves x) : rLow.ev ρ = (H.h * 1000000000 + H.a) % 4294967296 := by
 have hm := rMid_ev hx h1 h2 H; have hm' := H.mid; unfold rLow; simp only [ev_bin, hx, hm]; generalize H.h * 1000000000 + H.a = m at *; show BOp.add.ev .u64 (BOp.mul.ev .u64 (BOp.rem.ev .u64 x 4294967296) 0) (BOp.rem.ev .u64 m 4294967296) = _; rw [rem32 hm'.1, mul_ev, Int.mul_zero, Int.zero_emod, add_ev, Int.zero_add, m64 (by omega) (by omega)]
theorem rHi_ev {x : Int} (hx : eX.ev ρ = x) (h1 : 0 <= x) (h2 : x < 562949953421312) : rHi.ev ρ = x * 1000000000 / 18446744073709551616 := by
 have H := halves x h1 h2; have hm := rMid_ev hx h1 h2 H; have hl := rLow_ev hx h1 h2 H; have hm' := H.mid; rw [H.hi]; unfold rHi; simp only [ev_bin, hx, hm, hl]; generalize H.h * 1000000000 + H.a = m at *; show BOp.add.ev .u64 (BOp.add.ev .u64 (BOp.mul.ev .u64 (BOp.quo.ev .u64 x 4294967296) 0) (BOp.quo.ev .u64 m 4294967296)) (BOp.quo.ev .u64 (m % 4294967296) 4294967296) = _; rw [quo32 hm'.1 (by omega), quo32 (x := m % 4294967296) (by omega) (by omega), mul_ev, Int.mul_zero, Int.zero_emod, add_ev, add_ev, Int.zero_add, m64 (x := m / 4294967296) (by omega) (by omega), show m % 4294967296 / 4294967296 = 0 by omega, Int.add_zero, m64 (by omega) (by omega)]
theorem rLo_ev {x : Int} (hx : eX.ev ρ = x) (h1 : 0 <= x) (h2 : x < 562949953421312) : rLo.ev ρ = x * 1000000000 % 18446744073709551616 := by
 have H := halves x h1 h2; have hl := rLow_ev hx h1 h2 H; have q3 := H.l0; have q4 := H.l1; have q5 := H.b0; have q6 := H.b1; have hm' := H.mid; rw [H.lo]; unfold rLo; simp only [ev_bin, hx, hl]; have hd : H.l * 1000000000 % 4294967296 = H.b := H.db; have hl0 : 0 <= H.l * 1000000000 := by omega
 have hl1 : H.l * 1000000000 < 18446744073709551616 := by omega
 have hdl := H.dl; generalize H.h * 1000000000 + H.a = m at *; show BOp.add.ev .u64 (BOp.mul.ev .u64 (BOp.rem.ev .u64 (m % 4294967296) 4294967296) 4294967296) (BOp.rem.ev .u64 (BOp.mul.ev .u64 (BOp.rem.ev .u64 x 4294967296) 1000000000) 4294967296) = _; rw [rem32 (by omega), rem32 h1, hdl, mul_ev, mul_ev, m64 hl0 hl1, rem32 hl0, hd, show m % 4294967296 % 4294967296 = m % 4294967296 by omega, m64 (x := m % 4294967296 * 4294967296) (by omega) (by omega), add_ev, m64 (by omega) (by omega)]
theorem i64_wrap (x : Int) : IntKind.i64.wrap x = (x + 9223372036854775808) % 18446744073709551616 - 9223372036854775808 := by
 simp [IntKind.wrap, IntKind.bits, IntKind.signed]; split <;> omega
end
theorem smOk_at {P : Program} {F : Mng} {w0 : World} {M : Nat -> Prop} {s : Sm} {okF : FuncId -> Bool} {sums : Sums} {keep : FuncId -> Nat -> List Nat} {fuel n : Nat} (hm : P.follows .mixedOrders = true) (hok : ∀ f, okF f = true -> ∀ xs w, (callFunc f xs).run P w = .ok (.enter f xs) w)
  (hsum : ∀ (ns : List Int) (w : World), Kept w0 M w -> SumsOk P (envOf F ns) w (fun _ => False) sums) (v : List Int)
  (h : ∀ ns : List Int, shFits s.ps ns -> shFits s.rs (fnVals (F s.name) ns (shSize s.rs) 0) /\
   (retI (callF P [] okF sums keep fuel n s.f (varShs s.ps 0) .nil (varFacts s.ps 0))).holds (envOf F ns) fun x => x.flat = true /\ x.ev (envOf F ns) β0 = packV (shVals s.rs (fnVals (F s.name) ns (shSize s.rs) 0))) :
  SmOk P (envOf F v) w0 M s := fun ns hns => by
 obtain ⟨h1, h2⟩ := h ns hns; refine ⟨h1, fun w hw => ?_⟩
 obtain ⟨e1, e2, e3⟩ := varShs_spec (F := F) (β := β0) (n := 0) (hs := s.ps) (i := 0) hns; rw [List.drop_zero] at e1
 have hr := (callF_run (gl := []) (keep := keep) (fuel := fuel) hm hok (hsum ns w hw) n s.f (varShs s.ps 0) .nil (varFacts s.ps 0) β0 w (fun x w' => x = packV (shVals s.rs (fnVals (F s.name) ns (shSize s.rs) 0)) /\ Below w.heap.size w w') (heap_nil ..)
  (varFacts_ok (by rwa [List.drop_zero])) e2 (fun _ h => by cases h)
  (T.holds_mono (fun o ho β' w' _ _ _ hh hf hv => ⟨by rw [SV.ev_flat β' β0 _ ho.1]; exact ho.2, hh.kept.to_below⟩) (T.holds_map.1 h2))).2
 rw [e1] at hr; exact hr.mono fun e w' ⟨x, he, hx, hb⟩ => ⟨by rw [he, hx]; rfl, hb⟩
def insA3 : Sm := ⟨103, 3, [stSh], insRs⟩
def insB3 : Sm := ⟨116, 3, [stSh], insRs⟩
def adA4 : Sm := ⟨107, 4, [i1, i1], insRs⟩
def adB4 : Sm := ⟨119, 4, [i1, i1], insRs⟩
def addV (a b : Int) : Int := if 9223372036854775807 < a + b then 9223372036854775807 else if a + b < -9223372036854775808 then -9223372036854775808 else a + b
def addF (j : Nat) (ns : List Int) : Int := if j = 0 then addV (ns.getD 0 0) (ns.getD 1 0) else if -9223372036854775808 <= ns.getD 0 0 + ns.getD 1 0 /\ ns.getD 0 0 + ns.getD 1 0 <= 9223372036854775807 then 1 else 0
def namesR : Mng := fun f => if f = 3 then insF else if f = 4 then addF else namesK f
theorem ret_two {ρ : Env} {e : E} {b v : Int} {f : Nat -> List Int -> Int} {ns : List Int} (h0 : e.ev ρ = f 0 ns) (h1 : (v ≠ 0) ↔ f 1 ns ≠ 0) :
  (SV.tuple [.int .i64 e, .bool (.lit v)]).flat = true /\ (SV.tuple [.int .i64 e, .bool (.lit v)]).ev ρ β0 = packV (shVals insRs (fnVals f ns (shSize insRs) 0)) := by
 refine ⟨rfl, ?_⟩; show Value.tuple #[.int .i64 (e.ev ρ), .bool (decide (v ≠ 0))] = Value.tuple #[.int .i64 (f 0 ns), .bool (decide (f 1 ns ≠ 0))]; rw [h0, show decide (v ≠ 0) = decide (f 1 ns ≠ 0) from decide_eq_decide.2 h1]
theorem wf64 {x : Int} (h : -9223372036854775808 <= x /\ x <= 9223372036854775807) : (Lit.int .i64 x).wf = true := (wf_iff .i64 x).2 ⟨by simpa [IntKind.min, IntKind.bits, IntKind.signed] using h.1, by simpa [IntKind.max, IntKind.bits, IntKind.signed] using h.2⟩
theorem wf64' {x : Int} (h : (Lit.int .i64 x).wf = true) : -9223372036854775808 <= x /\ x <= 9223372036854775807 := by
 have := (wf_iff .i64 x).1 h; exact ⟨by simpa [IntKind.min, IntKind.bits, IntKind.signed] using this.1, by simpa [IntKind.max, IntKind.bits, IntKind.signed] using this.2⟩
theorem ins_fits (ns : List Int) : shFits insRs (fnVals insF ns (shSize insRs) 0) := by
 refine ⟨?_, trivial, trivial⟩; show (Lit.int .i64 (insF 0 ns)).wf = true; apply wf64; unfold insF; split
 ·rename_i h
  obtain ⟨_, _, _, _, _, h1, h2⟩ := h; rw [if_pos rfl]; omega
 ·omega
theorem add_fits (ns : List Int) : shFits insRs (fnVals addF ns (shSize insRs) 0) := by
 refine ⟨?_, trivial, trivial⟩; show (Lit.int .i64 (addF 0 ns)).wf = true; apply wf64; unfold addF addV; rw [if_pos rfl]; split
 ·omega
 ·split <;> omega
section
variable {F : Mng} {ns : List Int}
theorem ins_no (h : ¬ stOk (ns.getD 0 0) (ns.getD 1 0)) : noT.holds (envOf F ns) fun x => x.flat = true /\ x.ev (envOf F ns) β0 = packV (shVals insRs (fnVals insF ns (shSize insRs) 0)) :=
 ret_two (b := 0) (by show (0 : Int) = _; unfold insF; rw [if_neg h]) (by unfold insF; rw [if_neg h])
theorem ins_yes {e : E} (h : stOk (ns.getD 0 0) (ns.getD 1 0)) (he : e.ev (envOf F ns) = stT (ns.getD 0 0) (ns.getD 1 0) - 3900000000000000000) : (yesT e).holds (envOf F ns) fun x => x.flat = true /\ x.ev (envOf F ns) β0 = packV (shVals insRs (fnVals insF ns (shSize insRs) 0)) :=
 ret_two (b := 0) (by rw [he]; unfold insF; rw [if_pos h, if_pos rfl]) (by unfold insF; rw [if_pos h, if_neg (by decide)])
set_option maxHeartbeats 1000000 in
theorem insA_holds (hns : shFits [stSh] ns) : insTreeA.holds (envOf F ns) fun x => x.flat = true /\ x.ev (envOf F ns) β0 = packV (shVals insRs (fnVals insF ns (shSize insRs) 0)) := by
 have v0 : (E.var 0).ev (envOf F ns) = ns.getD 0 0 := rfl; have v1 : (E.var 1).ev (envOf F ns) = ns.getD 1 0 := rfl; have hno := @ins_no F ns; have hyes := @ins_yes F ns; have hX : ∀ (h1 : 0 <= ns.getD 0 0) (h2 : ns.getD 0 0 < 281474976710656), eX.ev (envOf F ns) = ns.getD 0 0 + 2208988800 := fun h1 h2 => eX_ev rfl h1 h2
 unfold stOk stT at *; generalize ns.getD 0 0 = s at *; generalize ns.getD 1 0 = n at *; unfold insTreeA vlt; simp only [br_lt, br_eq, v0, v1]; simp only [E.ev]; refine ⟨fun h => hno (by omega), fun a1 => ⟨fun h => hno (by omega), fun a2 => ⟨fun h => hno (by omega), fun a3 => ⟨fun a4 => ?_, fun h => hno (by omega)⟩⟩⟩⟩
 have hx := hX (by omega) (by omega)
 have hHi := eHi_ev hx (by omega) (by omega)
 have hLo := eLo_ev hx; have hT : eT.ev (envOf F ns) = IntKind.i64.wrap (IntKind.i64.wrap (eLo.ev (envOf F ns)) + n) := by show IntKind.i64.wrap (IntKind.i64.wrap (eLo.ev (envOf F ns)) + (E.var 1).ev (envOf F ns)) = _; rw [v1]
 have hO : eOut.ev (envOf F ns) = IntKind.i64.wrap (eT.ev (envOf F ns) - 3900000000000000000) := rfl; have hC : BOp.ev .conv .i64 (eLo.ev (envOf F ns)) 0 = IntKind.i64.wrap (eLo.ev (envOf F ns)) := rfl; have hlt : ∀ a b : Int, BOp.ev .lt .i64 a b = if a < b then 1 else 0 := fun _ _ => rfl
 simp only [hC, hlt]; rw [hHi]; refine ⟨fun b1 => ?_, fun b1 => hno (by omega)⟩
 have hL2 : eLo.ev (envOf F ns) = (s + 2208988800) * 1000000000 := by rw [hLo]; omega
 rw [hL2] at hT ⊢; refine ⟨fun b2 => hno (by omega), fun b2 => ?_⟩
 rw [i64w (x := (s + 2208988800) * 1000000000) (by omega)] at hT ⊢
 have hW := i64_wrap ((s + 2208988800) * 1000000000 + n); rw [hT, hW] at hO; rw [hT, hW]; rw [if_neg (show ¬ (s + 2208988800) * 1000000000 < 0 by omega)]
 refine ⟨fun b3 => ?_, fun b3 => hno ?_⟩
 ·have b3' : ¬ ((s + 2208988800) * 1000000000 + n + 9223372036854775808) % 18446744073709551616 - 9223372036854775808 < 0 := by
   intro hc; rw [if_pos hc] at b3; omega
  have hT3 : ((s + 2208988800) * 1000000000 + n + 9223372036854775808) % 18446744073709551616 - 9223372036854775808 = (s + 2208988800) * 1000000000 + n := by omega
  rw [hT3] at hO ⊢; rw [i64w (by omega)] at hO
  rw [hO]; exact ⟨fun h => hno (by omega), fun c1 => ⟨fun h => hno (by omega), fun c2 => ⟨fun h => hno (by omega), fun c3 => hyes (by omega) hO⟩⟩⟩
 ·intro hk
  apply b3; rw [if_neg (by omega)]
set_option maxHeartbeats 1000000 in
theorem insB_holds (hns : shFits [stSh] ns) : insTreeB.holds (envOf F ns) fun x => x.flat = true /\ x.ev (envOf F ns) β0 = packV (shVals insRs (fnVals insF ns (shSize insRs) 0)) := by
 have v0 : (E.var 0).ev (envOf F ns) = ns.getD 0 0 := rfl; have v1 : (E.var 1).ev (envOf F ns) = ns.getD 1 0 := rfl; have hno := @ins_no F ns; have hyes := @ins_yes F ns; have hX : ∀ (h1 : 0 <= ns.getD 0 0) (h2 : ns.getD 0 0 < 281474976710656), eX.ev (envOf F ns) = ns.getD 0 0 + 2208988800 := fun h1 h2 => eX_ev rfl h1 h2
 unfold stOk stT at *; generalize ns.getD 0 0 = s at *; generalize ns.getD 1 0 = n at *; unfold insTreeB vlt; simp only [br_lt, v0, v1]; simp only [E.ev]; refine ⟨fun h => hno (by omega), fun a1 => ⟨fun a2 => ⟨fun h => hno (by omega), fun a3 => ⟨fun a4 => ?_, fun h => hno (by omega)⟩⟩, fun h => hno (by omega)⟩⟩
 have hx := hX (by omega) (by omega)
 have hHi := rHi_ev hx (by omega) (by omega)
 have hLo := rLo_ev hx (by omega) (by omega)
 have hR : rT.ev (envOf F ns) = IntKind.i64.wrap (rLo.ev (envOf F ns)) := rfl; have hO : rOut.ev (envOf F ns) = IntKind.i64.wrap (IntKind.i64.wrap (rT.ev (envOf F ns) + n) - 3900000000000000000) := by show IntKind.i64.wrap (IntKind.i64.wrap (rT.ev (envOf F ns) + (E.var 1).ev (envOf F ns)) - 3900000000000000000) = _; rw [v1]
 have hS : BOp.ev .sub .i64 8000000000000000000 ((envOf F ns).v 1) = 8000000000000000000 - n := by
  show IntKind.i64.wrap (8000000000000000000 - (E.var 1).ev (envOf F ns)) = _; rw [v1]; exact i64w (by omega)
 rw [hHi]; refine ⟨fun b1 => hno (by omega), fun b1 => ?_⟩
 have hL2 : rLo.ev (envOf F ns) = (s + 2208988800) * 1000000000 := by rw [hLo]; omega
 rw [hL2] at hR ⊢; refine ⟨fun b2 => hno (by omega), fun b2 => ?_⟩
 rw [i64w (x := (s + 2208988800) * 1000000000) (by omega)] at hR
 rw [hR] at hO ⊢; rw [hS]; refine ⟨fun b3 => hno (by omega), fun b3 => ?_⟩
 rw [i64w (x := (s + 2208988800) * 1000000000 + n) (by omega), i64w (by omega)] at hO
 rw [hO]; exact ⟨fun h => hno (by omega), fun c2 => ⟨fun h => hno (by omega), fun c3 => hyes (by omega) hO⟩⟩
end
def z2 : T SV := .ok (.tuple [.int .i64 (.lit 9223372036854775807), .bool (.lit 0)])
def m2 : T SV := .ok (.tuple [.int .i64 (.lit (-9223372036854775808)), .bool (.lit 0)])
def s2 : T SV := .ok (.tuple [.int .i64 (.bin .add .i64 (.var 0) (.var 1)), .bool (.lit 1)])
def addTreeA : T SV := .br (.bin .eq .i64 (.bin .lt .i64 (.var 0) (.lit 0)) (.bin .lt .i64 (.var 1) (.lit 0))) (.br (.bin .eq .i64 (.bin .lt .i64 (.bin .add .i64 (.var 0) (.var 1)) (.lit 0)) (.bin .lt .i64 (.var 0) (.lit 0))) s2 (vlt (.lit 0) (.var 0) z2 m2)) s2
def addTreeB : T SV := vlt (.lit 0) (.var 1) (vlt (.bin .sub .i64 (.lit 9223372036854775807) (.var 1)) (.var 0) (vlt (.lit 0) (.var 0) z2 m2) s2) (vlt (.var 1) (.lit 0) (vlt (.var 0) (.bin .sub .i64 (.lit (-9223372036854775808)) (.var 1)) (vlt (.lit 0) (.var 0) z2 m2) s2) s2)
theorem addA_tree : retI (callF Tryz.prog [] okF sumsN noKeep 80 30 107 (varShs [i1, i1] 0) .nil (varFacts [i1, i1] 0)) = addTreeA := by kernel_rfl
theorem addB_tree : retI (callF Tryz.prog [] okF sumsN noKeep 80 30 119 (varShs [i1, i1] 0) .nil (varFacts [i1, i1] 0)) = addTreeB := by kernel_rfl
section
variable {F : Mng} {ns : List Int}
theorem add_leaf {e : E} {b : Int} (h0 : e.ev (envOf F ns) = addV (ns.getD 0 0) (ns.getD 1 0)) (h1 : b ≠ 0 ↔ (-9223372036854775808 <= ns.getD 0 0 + ns.getD 1 0 /\ ns.getD 0 0 + ns.getD 1 0 <= 9223372036854775807)) :
  (T.ok (SV.tuple [.int .i64 e, .bool (.lit b)])).holds (envOf F ns) fun x => x.flat = true /\ x.ev (envOf F ns) β0 = packV (shVals insRs (fnVals addF ns (shSize insRs) 0)) :=
 ret_two (b := 0) (by rw [h0]; unfold addF; rw [if_pos rfl]) (by
  rw [h1]; unfold addF; rw [if_neg (by decide)]
  split
  ·rename_i h; exact ⟨fun _ => by decide, fun _ => h⟩
  ·rename_i h; exact ⟨fun g => absurd g h, fun g => absurd rfl g⟩)
theorem add_hyp (hns : shFits [i1, i1] ns) : (-9223372036854775808 <= ns.getD 0 0 /\ ns.getD 0 0 <= 9223372036854775807) /\ -9223372036854775808 <= ns.getD 1 0 /\ ns.getD 1 0 <= 9223372036854775807 := by
 obtain ⟨h1, h2, _⟩ := hns; have e0 := headD_drop ns 0; have e1 := headD_drop ns 1; simp only [List.drop_zero] at e0; constructor
 ·rw [<- e0]; exact wf64' h1
 ·rw [<- e1]; exact wf64' h2
theorem addA_holds (hns : shFits [i1, i1] ns) : addTreeA.holds (envOf F ns) fun x => x.flat = true /\ x.ev (envOf F ns) β0 = packV (shVals insRs (fnVals addF ns (shSize insRs) 0)) := by
 have v0 : (E.var 0).ev (envOf F ns) = ns.getD 0 0 := rfl; have v1 : (E.var 1).ev (envOf F ns) = ns.getD 1 0 := rfl; have hl := @add_leaf F ns; have hr := add_hyp hns; have hs : (E.bin .add .i64 (.var 0) (.var 1)).ev (envOf F ns) = IntKind.i64.wrap (ns.getD 0 0 + ns.getD 1 0) := rfl; have hlt : ∀ a b : E, (E.bin .lt .i64 a b).ev (envOf F ns) = if a.ev (envOf F ns) < b.ev (envOf F ns) then 1 else 0 := fun _ _ => rfl
 have l0 : (E.lit 0).ev (envOf F ns) = 0 := rfl; rw [i64_wrap] at hs; unfold addV at hl; unfold addTreeA vlt; simp only [br_lt, br_eq, hlt, hs, v0, v1, l0]; generalize ns.getD 0 0 = a at *; generalize ns.getD 1 0 = b at *; refine ⟨fun c1 => ⟨fun c2 => hl ?_ ?_, fun c2 => ⟨fun c3 => hl ?_ ?_, fun c3 => hl ?_ ?_⟩⟩, fun c1 => hl ?_ ?_⟩ <;> first | (rw [hs]; (repeat' split at c1) <;> (repeat' split at c2) <;> (repeat' split) <;> omega) | (rw [hs]; (repeat' split at c1) <;> (repeat' split) <;> omega) | (show (_ : Int) = _; (repeat' split at c1) <;> (repeat' split at c2) <;> (repeat' split) <;> simp [E.ev] <;> omega) | ((repeat' split at c1) <;> (repeat' split at c2) <;> simp <;> omega) | ((repeat' split at c1) <;> simp <;> omega)
theorem addB_holds (hns : shFits [i1, i1] ns) : addTreeB.holds (envOf F ns) fun x => x.flat = true /\ x.ev (envOf F ns) β0 = packV (shVals insRs (fnVals addF ns (shSize insRs) 0)) := by
 have v0 : (E.var 0).ev (envOf F ns) = ns.getD 0 0 := rfl; have v1 : (E.var 1).ev (envOf F ns) = ns.getD 1 0 := rfl; have hl := @add_leaf F ns; have hr := add_hyp hns; have hs : (E.bin .add .i64 (.var 0) (.var 1)).ev (envOf F ns) = IntKind.i64.wrap (ns.getD 0 0 + ns.getD 1 0) := rfl; have h1 : (E.bin .sub .i64 (.lit 9223372036854775807) (.var 1)).ev (envOf F ns) = IntKind.i64.wrap (9223372036854775807 - ns.getD 1 0) := rfl
 have h2 : (E.bin .sub .i64 (.lit (-9223372036854775808)) (.var 1)).ev (envOf F ns) = IntKind.i64.wrap (-9223372036854775808 - ns.getD 1 0) := rfl; have l0 : (E.lit 0).ev (envOf F ns) = 0 := rfl; rw [i64_wrap] at hs h1 h2; unfold addV at hl; unfold addTreeB vlt; simp only [br_lt, h1, h2, v0, v1, l0]; generalize ns.getD 0 0 = a at *; generalize ns.getD 1 0 = b at *; refine ⟨fun c1 => ⟨fun c2 => ⟨fun c3 => hl ?_ ?_, fun c3 => hl ?_ ?_⟩, fun c2 => hl ?_ ?_⟩, fun c1 => ⟨fun c2 => ⟨fun c3 => ⟨fun c4 => hl ?_ ?_, fun c4 => hl ?_ ?_⟩, fun c3 => hl ?_ ?_⟩, fun c2 => hl ?_ ?_⟩⟩ <;> first | (rw [hs]; (repeat' split) <;> omega) | (show (_ : Int) = _; (repeat' split) <;> simp [E.ev] <;> omega) | (simp <;> omega)
end
theorem insA3_ok (v : List Int) (w : World) : SmOk Tryz.prog (envOf namesR v) w (fun _ => False) insA3 :=
 smOk_at (sums := sumsN) (okF := okF) (keep := noKeep) (fuel := 80) (n := 30) mixed okF_ok (fun _ _ _ => sums_none _ _ _ _) v fun ns hns => ⟨ins_fits ns, by
  show (retI (callF Tryz.prog [] okF sumsN noKeep 80 30 103 (varShs [stSh] 0) .nil (varFacts [stSh] 0))).holds _ _; rw [insA_tree]; exact insA_holds hns⟩
theorem insB3_ok (v : List Int) (w : World) : SmOk Tryz.prog (envOf namesR v) w (fun _ => False) insB3 :=
 smOk_at (sums := sumsN) (okF := okF) (keep := noKeep) (fuel := 80) (n := 30) mixed okF_ok (fun _ _ _ => sums_none _ _ _ _) v fun ns hns => ⟨ins_fits ns, by
  show (retI (callF Tryz.prog [] okF sumsN noKeep 80 30 116 (varShs [stSh] 0) .nil (varFacts [stSh] 0))).holds _ _; rw [insB_tree]; exact insB_holds hns⟩
theorem adA4_ok (v : List Int) (w : World) : SmOk Tryz.prog (envOf namesR v) w (fun _ => False) adA4 :=
 smOk_at (sums := sumsN) (okF := okF) (keep := noKeep) (fuel := 80) (n := 30) mixed okF_ok (fun _ _ _ => sums_none _ _ _ _) v fun ns hns => ⟨add_fits ns, by
  show (retI (callF Tryz.prog [] okF sumsN noKeep 80 30 107 (varShs [i1, i1] 0) .nil (varFacts [i1, i1] 0))).holds _ _; rw [addA_tree]; exact addA_holds hns⟩
theorem adB4_ok (v : List Int) (w : World) : SmOk Tryz.prog (envOf namesR v) w (fun _ => False) adB4 :=
 smOk_at (sums := sumsN) (okF := okF) (keep := noKeep) (fuel := 80) (n := 30) mixed okF_ok (fun _ _ _ => sums_none _ _ _ _) v fun ns hns => ⟨add_fits ns, by
  show (retI (callF Tryz.prog [] okF sumsN noKeep 80 30 119 (varShs [i1, i1] 0) .nil (varFacts [i1, i1] 0))).holds _ _; rw [addB_tree]; exact addB_holds hns⟩
theorem more_rounds {P : Program} {c : Code} {Q : Exit -> Act -> World -> Prop} : ∀ (n : Nat) (a : Act) (w : World), Code.rounds P c Q n a w -> More P c Q a w
 | 0, _, _, h => h.elim
 | n + 1, a, w, h => more_step (Code.wp_mono (fun e a w he => match e, he with
  | .normal, he => more_rounds n a w he
  | .exit _, he => he
  | .goto _, he => he
  | .ret, he => he
  | .panic _, he => he
  | .outgrown, he => he) h)
def dvU (i : Nat) : SV := .int .u64 (.var i)
def divTm : Tm := ⟨54, [(0, dvU 0), (1, dvU 1), (2, .int .u64 (.lit 65536)), (9, dvU 2), (10, dvU 3), (11, dvU 4), (12, .int .i64 (.var 5))], [], [(.bin .lt .i64 (.var 4) (.lit 65536), true), (.bin .lt .i64 (.lit 128) (.var 5), false), (.bin .lt .i64 (.var 5) (.lit 0), false)]⟩
def divC : Code := (Tryz.f150.body).getD .skip
def divCall : Caller := callF Tryz.prog [] okF sumsN noKeep 80 30
def divP : Path := [1, 1, 0, 1, 0]
def divB : Code := (bodyAt divC divP).getD .skip
theorem divB_at : bodyAt divC divP = some divB := by kernel_rfl
def eR : E := .bin .or .u64 (.bin .shl .u64 (.var 4) (.lit 1)) (.bin .shr .u64 (.var 0) (.lit 63))
def eHi1 : E := .bin .or .u64 (.bin .shl .u64 (.var 0) (.lit 1)) (.bin .shr .u64 (.var 1) (.lit 63))
def eLo1 : E := .bin .shl .u64 (.var 1) (.lit 1)
def eQ1 : E := .bin .or .u64 (.bin .shl .u64 (.var 2) (.lit 1)) (.bin .shr .u64 (.var 3) (.lit 63))
def eQ0 : E := .bin .shl .u64 (.var 3) (.lit 1)
def eI1 : E := .bin .add .i64 (.var 5) (.lit 1)
def divTree : T Vw := .br (.bin .lt .i64 (.var 5) (.lit 128)) (.br (.bin .lt .u64 eR (.lit 65536)) (.ok (.back true [eHi1, eLo1, eQ1, eQ0, eR, eI1])) (.ok (.back true [eHi1, eLo1, eQ1, .bin .or .u64 eQ0 (.lit 1), .bin .sub .u64 eR (.lit 65536), eI1]))) (.ok (.out .ret (some (.tuple [dvU 2, dvU 3, dvU 4]))))
theorem div_round (g : Nat -> Value) : (roundT Tryz.prog [] divCall (noKeep 150) 80 divC divP divB (divTm.st g)).map (vwOf Tryz.prog Tryz.f150 [] divTm 6) = divTree := by kernel_rfl
theorem or_low {x y q : Int} (hx : x = 2 * q) (h0 : 0 <= x) (h1 : x < 18446744073709551616) (y0 : 0 <= y) (y1 : y < 2) : BOp.or.ev .u64 x y = x + y := by
 have := or_disjoint .u64 (x := x) (y := y) (m := 1) (q := q) (by decide) (by rw [hx]; rfl) y0 (by simpa using y1)
 rw [this, w64]; omega
theorem shl1 (x : Int) : BOp.shl.ev .u64 x 1 = (x * 2) % 18446744073709551616 := by
 show IntKind.u64.wrap (x * 2 ^ Nat.min (1 : Int).toNat IntKind.u64.bits) = _; rw [show Nat.min (1 : Int).toNat IntKind.u64.bits = 1 by decide, w64]
 rfl
theorem shr63 (x : Int) : BOp.shr.ev .u64 x 63 = x / 9223372036854775808 := by
 show x.fdiv (2 ^ Nat.min (63 : Int).toNat IntKind.u64.bits) = _; rw [show Nat.min (63 : Int).toNat IntKind.u64.bits = 63 by decide, iDv _ (by decide)]
 rfl
theorem div_step {N hi lo A rem : Int} {k : Nat} (hk : k < 128) (hH : hi * 18446744073709551616 + lo = rem * 2 ^ k) (r0 : 0 <= rem) (r1 : rem < 2 ^ (128 - k)) (hN : A * 2 ^ (128 - k) + rem = N) (h0 : 0 <= hi) (h1 : hi < 18446744073709551616) (l0 : 0 <= lo) (l1 : lo < 18446744073709551616) :
  0 <= hi / 9223372036854775808 /\ hi / 9223372036854775808 < 2 /\ ∃ rem', (hi * 2 % 18446744073709551616 + lo / 9223372036854775808) * 18446744073709551616 + lo * 2 % 18446744073709551616 = rem' * 2 ^ (k + 1) /\ 0 <= rem' /\ rem' < 2 ^ (128 - (k + 1)) /\ (2 * A + hi / 9223372036854775808) * 2 ^ (128 - (k + 1)) + rem' = N := by
 have e1 : (2 : Int) ^ (128 - k) = 2 * 2 ^ (128 - (k + 1)) := by
  rw [show 128 - k = (128 - (k + 1)) + 1 by omega, Int.pow_succ, Int.mul_comm]
 have e2 : (2 : Int) ^ (128 - (k + 1)) * 2 ^ k = 170141183460469231731687303715884105728 := by
  rw [<- Int.pow_add, show 128 - (k + 1) + k = 127 by omega]; decide
 have e3 : (2 : Int) ^ (k + 1) = 2 * 2 ^ k := by rw [Int.pow_succ, Int.mul_comm]
 have hD : (0 : Int) < 2 ^ (128 - (k + 1)) := Int.pow_pos (by decide)
 have hE : (0 : Int) < 2 ^ k := Int.pow_pos (by decide)
 rw [e1] at r1 hN; rw [e3]; generalize (2 : Int) ^ (128 - (k + 1)) = D at *; generalize (2 : Int) ^ k = E at *; refine ⟨by omega, by omega, ?_⟩
 by_cases hc : D <= rem
 ·have hm := Int.mul_le_mul_of_nonneg_right hc (Int.le_of_lt hE)
  have hb : hi / 9223372036854775808 = 1 := by omega
  refine ⟨rem - D, ?_, by omega, by omega, ?_⟩
  ·have e5 : (rem - D) * (2 * E) = 2 * (rem * E) - 2 * (D * E) := by rw [Int.sub_mul, Int.mul_left_comm, Int.mul_left_comm D]
   rw [e5, <- hH, e2]; omega
  ·rw [hb, Int.add_mul, Int.mul_assoc 2, Int.one_mul, Int.mul_left_comm] at *
   have : A * (2 * D) = 2 * (A * D) := Int.mul_left_comm ..; omega
 ·have hm := Int.mul_le_mul_of_nonneg_right (show rem <= D - 1 by omega) (Int.le_of_lt hE)
  rw [Int.sub_mul, Int.one_mul] at hm; have hb : hi / 9223372036854775808 = 0 := by omega
  refine ⟨rem, ?_, r0, by omega, ?_⟩
  ·have e5 : rem * (2 * E) = 2 * (rem * E) := Int.mul_left_comm ..
   rw [e5, <- hH]; omega
  ·have : A * (2 * D) = 2 * A * D := by rw [<- Int.mul_assoc, Int.mul_comm A 2]
   rw [hb, Int.add_zero]; omega
def DivI (N : Int) (ρ : Env) (m : Nat) : Prop := ∃ (k : Nat) (rem : Int), k <= 128 /\ m = 128 - k /\ ρ.v 5 = k /\ ρ.v 0 * 18446744073709551616 + ρ.v 1 = rem * 2 ^ k /\ 0 <= rem /\ rem < 2 ^ (128 - k) /\ ρ.v 2 = 0 /\ 0 <= ρ.v 3 /\ 0 <= ρ.v 4 /\ ρ.v 4 < 65536 /\
 (ρ.v 3 * 65536 + ρ.v 4) * 2 ^ (128 - k) + rem = N /\ 0 <= ρ.v 0 /\ ρ.v 0 < 18446744073709551616 /\ 0 <= ρ.v 1 /\ ρ.v 1 < 18446744073709551616
theorem small_q {N A rem : Int} {j : Nat} (hA : 0 <= A) (h : A * 2 ^ j + rem = N) (hr : 0 <= rem) : A <= N := by
 have hD : (1 : Int) <= 2 ^ j := Int.pow_pos (by decide)
 have := Int.mul_le_mul_of_nonneg_left hD hA; omega
def DivR (N : Int) (ρ : Env) (v : SV) : Prop := v.flat = true /\ v.ev ρ β0 = .tuple #[.int .u64 0, .int .u64 (N / 65536), .int .u64 (N % 65536)]
set_option maxHeartbeats 1000000 in
theorem div_inv {N : Int} (hN : N < 18446744073709551616) {ρ : Env} {m : Nat} (h : DivI N ρ m) : divTree.holds ρ fun v => match v with
   | .back ok vs => ok = true /\ ∀ σ : Nat -> E, (∀ i, i < 6 -> σ i = vs.getD i (.var i)) -> ∃ m', m' < m /\ DivI N (envSub ρ σ) m'
   | .out (.exit _) _ => False
   | .out _ (some v) => DivR N ρ v
   | .out _ none => False
   | .lost => False := by
 obtain ⟨k, rem, hk, rfl, h5, hH, r0, r1, h2, q0, p0, p1, hA, a0, a1, b0, b1⟩ := h; have hq := small_q (by omega) hA r0
 have v0 : (E.var 0).ev ρ = ρ.v 0 := rfl; have v1 : (E.var 1).ev ρ = ρ.v 1 := rfl; have v2 : (E.var 2).ev ρ = ρ.v 2 := rfl; have v3 : (E.var 3).ev ρ = ρ.v 3 := rfl; have v4 : (E.var 4).ev ρ = ρ.v 4 := rfl; have v5 : (E.var 5).ev ρ = ρ.v 5 := rfl; have l1 : ∀ n : Int, (E.lit n).ev ρ = n := fun _ => rfl
 unfold divTree; rw [br_lt, v5, l1, h5]; refine ⟨fun hlt => ?_, fun hlt => ?_⟩
 ·have hlt' : k < 128 := by omega
  obtain ⟨c0, c1, rem', g1, g2, g3, g4⟩ := div_step hlt' hH r0 r1 hA a0 a1 b0 b1
  have eR' : eR.ev ρ = 2 * ρ.v 4 + ρ.v 0 / 9223372036854775808 := by
   show BOp.or.ev .u64 (BOp.shl.ev .u64 (ρ.v 4) 1) (BOp.shr.ev .u64 (ρ.v 0) 63) = _; rw [shl1, shr63, m64 (by omega) (by omega), or_low (q := ρ.v 4) (by omega) (by omega) (by omega) c0 c1]
   omega
  have eH' : eHi1.ev ρ = ρ.v 0 * 2 % 18446744073709551616 + ρ.v 1 / 9223372036854775808 := by
   show BOp.or.ev .u64 (BOp.shl.ev .u64 (ρ.v 0) 1) (BOp.shr.ev .u64 (ρ.v 1) 63) = _; rw [shl1, shr63, or_low (q := ρ.v 0 % 9223372036854775808) (by omega) (by omega) (by omega) (by omega) (by omega)]
  have eL' : eLo1.ev ρ = ρ.v 1 * 2 % 18446744073709551616 := shl1 _
  have eQ1' : eQ1.ev ρ = 0 := by
   show BOp.or.ev .u64 (BOp.shl.ev .u64 (ρ.v 2) 1) (BOp.shr.ev .u64 (ρ.v 3) 63) = _; rw [shl1, shr63, h2, or_low (q := 0) (by decide) (by decide) (by decide) (by omega) (by omega)]
   omega
  have eQ0' : eQ0.ev ρ = 2 * ρ.v 3 := by
   show BOp.shl.ev .u64 (ρ.v 3) 1 = _; rw [shl1]; omega
  have eI' : eI1.ev ρ = (k : Int) + 1 := by
   show IntKind.i64.wrap (ρ.v 5 + 1) = _; rw [h5, i64w (by omega)]
  have fin : ∀ (Q0 R : E) (σ : Nat -> E), (∀ i, i < 6 -> σ i = [eHi1, eLo1, eQ1, Q0, R, eI1].getD i (.var i)) -> 0 <= Q0.ev ρ -> 0 <= R.ev ρ -> R.ev ρ < 65536 -> Q0.ev ρ * 65536 + R.ev ρ = 2 * (ρ.v 3 * 65536 + ρ.v 4) + ρ.v 0 / 9223372036854775808 -> ∃ m', m' < 128 - k /\ DivI N (envSub ρ σ) m' := fun Q0 R σ hσ u1 u2 u3 u4 => by
   have s0 : (envSub ρ σ).v 0 = eHi1.ev ρ := by show (σ 0).ev ρ = _; rw [hσ 0 (by decide)]; rfl
   have s1 : (envSub ρ σ).v 1 = eLo1.ev ρ := by show (σ 1).ev ρ = _; rw [hσ 1 (by decide)]; rfl
   have s2 : (envSub ρ σ).v 2 = eQ1.ev ρ := by show (σ 2).ev ρ = _; rw [hσ 2 (by decide)]; rfl
   have s3 : (envSub ρ σ).v 3 = Q0.ev ρ := by show (σ 3).ev ρ = _; rw [hσ 3 (by decide)]; rfl
   have s4 : (envSub ρ σ).v 4 = R.ev ρ := by show (σ 4).ev ρ = _; rw [hσ 4 (by decide)]; rfl
   have s5 : (envSub ρ σ).v 5 = eI1.ev ρ := by show (σ 5).ev ρ = _; rw [hσ 5 (by decide)]; rfl
   refine ⟨128 - (k + 1), by omega, k + 1, rem', by omega, rfl, ?_⟩
   rw [s0, s1, s2, s3, s4, s5, eH', eL', eQ1', eI']; refine ⟨by omega, g1, g2, g3, rfl, u1, u2, u3, by rw [u4]; exact g4, ?_, ?_, ?_, ?_⟩ <;> omega
  rw [br_lt, eR', l1]; refine ⟨fun hr => ⟨rfl, fun σ hσ => fin _ _ σ hσ ?_ ?_ ?_ ?_⟩, fun hr => ⟨rfl, fun σ hσ => fin _ _ σ hσ ?_ ?_ ?_ ?_⟩⟩
  ·rw [eQ0']; omega
  ·rw [eR']; omega
  ·rw [eR']; omega
  ·rw [eQ0', eR']; omega
  ·show 0 <= BOp.or.ev .u64 (eQ0.ev ρ) 1
   rw [eQ0', or_low (q := ρ.v 3) rfl (by omega) (by omega) (by decide) (by decide)]; omega
  ·show 0 <= IntKind.u64.wrap (eR.ev ρ - 65536)
   rw [eR', w64]; omega
  ·show IntKind.u64.wrap (eR.ev ρ - 65536) < 65536
   rw [eR', w64]; omega
  ·show BOp.or.ev .u64 (eQ0.ev ρ) 1 * 65536 + IntKind.u64.wrap (eR.ev ρ - 65536) = _
   rw [eQ0', or_low (q := ρ.v 3) rfl (by omega) (by omega) (by decide) (by decide), eR', w64]; omega
 ·obtain rfl : k = 128 := by omega
  rw [show 128 - 128 = 0 from rfl] at r1 hA; simp only [Int.pow_zero, Int.mul_one] at r1 hA; refine ⟨rfl, ?_⟩; show Value.tuple #[.int .u64 (ρ.v 2), .int .u64 (ρ.v 3), .int .u64 (ρ.v 4)] = _; rw [h2, show ρ.v 3 = N / 65536 by omega, show ρ.v 4 = N % 65536 by omega]
def divArgs : List SV := [.int .u64 (.lit 0), .int .u64 (.var 0), .int .u64 (.lit 65536)]
def seeAt : Sp -> Option (Path × Bool × List E)
 | .loop p st => some (p, divTm.fit [] (divTm.solve st) st, (List.range 6).map (divTm.solve st))
 | .done _ => none
theorem div_enter : (execP Tryz.prog [] divCall (noKeep 150) 80 divC (entrySt Tryz.f150 divArgs .nil [])).map seeAt = .ok (some (divP, true, [.lit 0, .var 0, .lit 0, .lit 0, .lit 0, .lit 0])) := by kernel_rfl
theorem div_body : Tryz.f150.body = some divC := by kernel_rfl
theorem divide_ok {N : Int} (h0 : 0 <= N) (h1 : N < 18446744073709551616) (w : World) : Calls Tryz.prog 150 #[.int .u64 0, .int .u64 N, .int .u64 65536] w fun e w' =>
  e = .returned (.tuple #[.int .u64 0, .int .u64 (N / 65536), .int .u64 (N % 65536)]) /\ Below w.heap.size w w' := by
 have hc : ∀ ρ', SameEnv (envOf names38 [N]) ρ' -> CallOk Tryz.prog ρ' w (fun _ => False) [] divCall := fun ρ' _ => callF_run mixed okF_ok (sums_none _ _ _ _) 30
 have hargs : SV.oks (envOf names38 [N]) 0 divArgs := by
  refine ⟨(by decide : (Lit.int .u64 0).wf = true), ?_, (by decide : (Lit.int .u64 65536).wf = true), trivial⟩
  show (Lit.int .u64 N).wf = true; refine (wf_iff .u64 N).2 ⟨?_, ?_⟩ <;> simp [IntKind.min, IntKind.max, IntKind.bits, IntKind.signed] <;> omega
 have hst := entry_conc (fn := Tryz.f150) (gl := []) (heap_nil (envOf names38 [N]) w (fun _ => False) β0) (fs := []) (fun _ h => by cases h) hargs (fun _ h => by cases h)
 have he : SV.evs (envOf names38 [N]) β0 divArgs = [.int .u64 0, .int .u64 N, .int .u64 65536] := rfl; rw [he] at hst; refine calls_of_wp Tryz.func150 div_body (execP_run (keep := noKeep 150) (fuel := 80) (hc _ ⟨rfl, rfl⟩) mixed divC β0 _ _ w _ hst ?_)
 have hen : ((execP Tryz.prog [] divCall (noKeep 150) 80 divC (entrySt Tryz.f150 divArgs .nil [])).map seeAt).holds (envOf names38 [N]) fun x => x = some (divP, true, [.lit 0, .var 0, .lit 0, .lit 0, .lit 0, .lit 0]) := by
  rw [div_enter]; exact rfl
 refine T.holds_mono (fun s hs => ?_) (T.holds_map'.1 hen)
 cases s with
 | done r => simp only [seeAt] at hs; cases hs
 | loop p st =>
  simp only [seeAt, sEq, Prod.mk.injEq] at hs; obtain ⟨rfl, hfit, hsol⟩ := hs; intro β' a' w' _ _ _ hc'; refine ⟨divB, divB_at, more_rounds _ _ _ (loop_inv (keep := noKeep 150) (fuel := 80) (fn := Tryz.f150) (n := 6) hc mixed divB_at (DivI N) (DivR N) (fun ρ' m g _ _ hI => ?_) (fun ρ' β2 r v a2 w2 _ hc2 hx hv hR => ?_) 128 (envSub (envOf names38 [N]) (divTm.solve st)) _ β' a' w' ⟨rfl, rfl⟩ ?_ (Tm.fit_run hc' hfit))⟩
  ·rw [div_round]; exact div_inv h1 hI
  ·obtain ⟨x, st2⟩ := r
   have hv' : (resultsS Tryz.prog st2 (Tryz.f150).results.toList).map packS = some v := hv; cases hvs : resultsS Tryz.prog st2 (Tryz.f150).results.toList with
   | none => rw [hvs] at hv'; cases hv'
   | some vs =>
    rw [hvs] at hv'; obtain rfl := sinj hv'; obtain ⟨r1, _⟩ := results_run hc2 hvs; rw [SV.ev_flat β2 β0 _ hR.1, hR.2] at r1; have fin : bodyPost Tryz.prog Tryz.f150 (fun e w' => e = .returned (.tuple #[.int .u64 0, .int .u64 (N / 65536), .int .u64 (N % 65536)]) /\ Below w.heap.size w w') .ret a2 w2 := ⟨hc2.defers, _, r1, rfl, hc2.heap.kept.to_below⟩
    cases x with
    | exit id => exact absurd rfl (hx id)
    | normal => exact fin
    | ret => exact fin
  ·have hs : ∀ i, i < 6 -> divTm.solve st i = [E.lit 0, .var 0, .lit 0, .lit 0, .lit 0, .lit 0].getD i (.var i) := fun i hi => by rw [<- hsol]; simp [hi]
   have g0 : (envSub (envOf names38 [N]) (divTm.solve st)).v 0 = 0 := by show (divTm.solve st 0).ev _ = _; rw [hs 0 (by decide)]; rfl
   have g1 : (envSub (envOf names38 [N]) (divTm.solve st)).v 1 = N := by show (divTm.solve st 1).ev _ = _; rw [hs 1 (by decide)]; rfl
   have g2 : (envSub (envOf names38 [N]) (divTm.solve st)).v 2 = 0 := by show (divTm.solve st 2).ev _ = _; rw [hs 2 (by decide)]; rfl
   have g3 : (envSub (envOf names38 [N]) (divTm.solve st)).v 3 = 0 := by show (divTm.solve st 3).ev _ = _; rw [hs 3 (by decide)]; rfl
   have g4 : (envSub (envOf names38 [N]) (divTm.solve st)).v 4 = 0 := by show (divTm.solve st 4).ev _ = _; rw [hs 4 (by decide)]; rfl
   have g5 : (envSub (envOf names38 [N]) (divTm.solve st)).v 5 = 0 := by show (divTm.solve st 5).ev _ = _; rw [hs 5 (by decide)]; rfl
   refine ⟨0, N, by decide, rfl, ?_⟩
   rw [g0, g1, g2, g3, g4, g5]; refine ⟨rfl, by omega, h0, ?_, rfl, by decide, by decide, by decide, by omega, by decide, by decide, h0, h1⟩
   exact Int.lt_trans h1 (by decide)
def sumsD : Sums := fun f args =>
 if f = 147 then (match args with
  | [.int .u64 e, .int .u64 (.lit 1)] => some (.tuple [.int .u64 (.lit 0), .int .u64 e])
  | _ => none)
 else if f = 150 then (match args with
  | [.int .u64 (.lit 0), .int .u64 e, .int .u64 (.lit 65536)] => some (.tuple [.int .u64 (.lit 0), .int .u64 (.bin .quo .u64 e (.lit 65536)), .int .u64 (.bin .rem .u64 e (.lit 65536))])
  | _ => none)
 else none
def prodFs : Fs := [(.bin .zrng .u64 (.var 0) (.lit 0), true)]
def prodOk (o : Out) : Bool := match o.v with
 | .tuple [.int .u64 a, .int .u64 b] => eqF o.fs a (.lit 0) && eqF o.fs b (.var 0)
 | _ => false
theorem prod_tree : (callF Tryz.prog [] okF sumsN noKeep 80 30 147 [.int .u64 (.var 0), .int .u64 (.lit 1)] .nil prodFs).all prodOk = true := by kernel_rfl
theorem wfu {x : Int} (h0 : 0 <= x) (h1 : x < 18446744073709551616) : (Lit.int .u64 x).wf = true := by
 refine (wf_iff .u64 x).2 ⟨?_, ?_⟩ <;> simp [IntKind.min, IntKind.max, IntKind.bits, IntKind.signed] <;> omega
theorem wfu' {x : Int} (h : (Lit.int .u64 x).wf = true) : 0 <= x /\ x < 18446744073709551616 := by
 have := (wf_iff .u64 x).1 h; simp [IntKind.min, IntKind.max, IntKind.bits, IntKind.signed] at this; omega
theorem product_ok {x : Int} (hx : (Lit.int .u64 x).wf = true) (w : World) : Calls Tryz.prog 147 #[.int .u64 x, .int .u64 1] w fun e w' => e = .returned (.tuple #[.int .u64 0, .int .u64 x]) /\ Below w.heap.size w w' := by
 have hf : FsOk (envOf names38 [x]) prodFs := fun p hp => by
  obtain rfl : p = _ := List.mem_singleton.1 hp; have := (wf_iff .u64 x).1 hx; show (if IntKind.u64.min <= x /\ x <= IntKind.u64.max then (1 : Int) else 0) ≠ 0 ↔ true = true
  rw [if_pos this]; simp
 have hr := (callF_run (gl := []) (keep := noKeep) (fuel := 80) (ρ := envOf names38 [x]) (w0 := w) (M := fun _ => False) mixed okF_ok (sums_none _ _ _ _) 30 147 [.int .u64 (.var 0), .int .u64 (.lit 1)] .nil prodFs β0 w (fun v w' => v = .tuple #[.int .u64 0, .int .u64 x] /\ Below w.heap.size w w') (heap_nil ..) hf
  ⟨hx, (by decide : (Lit.int .u64 1).wf = true), trivial⟩ (fun _ h => by cases h)
  (T.holds_mono (fun o ho β' w' _ _ _ hh hfo hv => ?_) (T.all_holds prod_tree))).2
 ·exact hr.mono fun e w' ⟨v, he, hv, hb⟩ => ⟨by rw [he, hv], hb⟩
 ·unfold prodOk at ho
  split at ho
  ·rename_i a b hov
   rw [bAnd] at ho; have e1 := eqF_spec hfo ho.1; have e2 := eqF_spec hfo ho.2; rw [hov]; refine ⟨?_, hh.kept.to_below⟩; show Value.tuple #[.int .u64 (a.ev _), .int .u64 (b.ev _)] = _; rw [e1, e2]; rfl
  ·cases ho
theorem sumsD_ok (ρ : Env) (w0 : World) : SumsOk Tryz.prog ρ w0 (fun _ => False) sumsD := fun f args v h n β ha => by
 unfold sumsD at h; split at h
 ·rename_i hf
  subst hf; split at h
  ·rename_i e
   obtain rfl := sinj h; have hx : (Lit.int .u64 (e.ev ρ)).wf = true := ha.1; exact ⟨⟨(by decide : (Lit.int .u64 0).wf = true), hx, trivial⟩, fun w _ => product_ok hx w⟩
  ·cases h
 ·split at h
  ·rename_i hf
   subst hf; split at h
   ·rename_i e
    obtain rfl := sinj h; have hx : (Lit.int .u64 (e.ev ρ)).wf = true := ha.2.1; obtain ⟨h0, h1⟩ := wfu' hx
    have eq1 : (E.bin .quo .u64 e (.lit 65536)).ev ρ = e.ev ρ / 65536 := by
     show IntKind.u64.wrap ((e.ev ρ).tdiv 65536) = _; rw [w64, Int.tdiv_eq_ediv_of_nonneg h0]; omega
    have eq2 : (E.bin .rem .u64 e (.lit 65536)).ev ρ = e.ev ρ % 65536 := Int.tmod_eq_emod_of_nonneg h0; refine ⟨⟨(by decide : (Lit.int .u64 0).wf = true), ?_, ?_, trivial⟩, fun w _ => ?_⟩
    ·show (Lit.int .u64 _).wf = true
     rw [eq1]; exact wfu (by omega) (by omega)
    ·show (Lit.int .u64 _).wf = true
     rw [eq2]; exact wfu (by omega) (by omega)
    ·have := divide_ok h0 h1 w
     show Calls Tryz.prog 150 #[.int .u64 0, .int .u64 (e.ev ρ), .int .u64 65536] w fun x w' => x = .returned (.tuple #[.int .u64 0, .int .u64 ((E.bin .quo .u64 e (.lit 65536)).ev ρ), .int .u64 ((E.bin .rem .u64 e (.lit 65536)).ev ρ)]) /\ Below w.heap.size w w'
     rw [eq1, eq2]; exact this
   ·cases h
  ·cases h
def nanA : Sm := ⟨121, 5, [i1], [i1]⟩
def nanB : Sm := ⟨118, 5, [i1], [i1]⟩
def nanF (_ : Nat) (ns : List Int) : Int := ns.getD 0 0 / 65536
def namesN : Mng := fun f => if f = 5 then nanF else namesR f
theorem tdiv_c (x : Int) : x.tdiv 65536 = if 0 <= x then x / 65536 else -((-x) / 65536) := by
 split
 ·rename_i h; exact Int.tdiv_eq_ediv_of_nonneg h
 ·rename_i h
  have h1 := Int.neg_tdiv (-x) 65536; rw [Int.neg_neg] at h1; rw [h1, Int.tdiv_eq_ediv_of_nonneg (a := -x) (by omega)]
theorem tmod_c (x : Int) : x.tmod 65536 = if 0 <= x then x % 65536 else -((-x) % 65536) := by
 split
 ·rename_i h; exact Int.tmod_eq_emod_of_nonneg h
 ·rename_i h
  have h1 := Int.neg_tmod (-x) 65536; rw [Int.neg_neg] at h1; rw [h1, Int.tmod_eq_emod_of_nonneg (a := -x) (by omega)]
def nq : E := .bin .quo .i64 (.var 0) (.lit 65536)
def nr : E := .bin .rem .i64 (.var 0) (.lit 65536)
def ng : E := .bin .zmul .i64 (.lit (-1)) (.var 0)
def nbq : E := .bin .quo .u64 ng (.lit 65536)
def nOk (e : E) : T SV := .ok (.int .i64 e)
def nanTreeA : T SV := .br (.bin .eq .i64 (.var 0) (.lit (-9223372036854775808))) (nOk nq) (.br (.bin .eq .i64 nr (.lit 0)) (nOk nq) (.br (.bin .lt .i64 nr (.lit 0)) (nOk (.bin .sub .i64 nq (.lit 1))) (nOk nq)))
def nb1 : E := .bin .sub .i64 (.bin .sub .i64 (.lit 0) (.bin .conv .i64 (.bin .sub .u64 (.bin .add .u64 nbq (.lit 1)) (.lit 1)) (.lit 0))) (.lit 1)
def nb2 : E := .bin .sub .i64 (.bin .sub .i64 (.lit 0) (.bin .conv .i64 (.bin .sub .u64 nbq (.lit 1)) (.lit 0))) (.lit 1)
def nb3 : E := .bin .conv .i64 (.bin .quo .u64 (.var 0) (.lit 65536)) (.lit 0)
def nanTreeB : T SV := .br (.bin .lt .i64 (.var 0) (.lit 0)) (.br (.bin .lt .u64 (.lit 0) (.bin .rem .u64 ng (.lit 65536))) (nOk nb1) (.br (.bin .eq .u64 nbq (.lit 0)) (nOk (.lit 0)) (nOk nb2))) (nOk nb3)
theorem nanA_tree : retI (callF Tryz.prog [] okF sumsD noKeep 80 30 121 (varShs [i1] 0) .nil (varFacts [i1] 0)) = nanTreeA := by kernel_rfl
theorem nanB_tree : retI (callF Tryz.prog [] okF sumsD noKeep 80 30 118 (varShs [i1] 0) .nil (varFacts [i1] 0)) = nanTreeB := by kernel_rfl
section
variable {F : Mng} {ns : List Int}
theorem nan_leaf {e : E} (h : e.ev (envOf F ns) = ns.getD 0 0 / 65536) : (nOk e).holds (envOf F ns) fun x => x.flat = true /\ x.ev (envOf F ns) β0 = packV (shVals [i1] (fnVals nanF ns (shSize [i1]) 0)) := by
 refine ⟨rfl, ?_⟩; show Value.int .i64 (e.ev _) = Value.int .i64 (ns.getD 0 0 / 65536); rw [h]
theorem nan_hyp (hns : shFits [i1] ns) : -9223372036854775808 <= ns.getD 0 0 /\ ns.getD 0 0 <= 9223372036854775807 := by
 have e0 := headD_drop ns 0; simp only [List.drop_zero] at e0; rw [<- e0]; exact wf64' hns.1
theorem nan_fits (hns : shFits [i1] ns) : shFits [i1] (fnVals nanF ns (shSize [i1]) 0) := by
 have := nan_hyp hns; refine ⟨?_, trivial⟩; show (Lit.int .i64 (ns.getD 0 0 / 65536)).wf = true; exact wf64 (by omega)
theorem nanA_holds (hns : shFits [i1] ns) : nanTreeA.holds (envOf F ns) fun x => x.flat = true /\ x.ev (envOf F ns) β0 = packV (shVals [i1] (fnVals nanF ns (shSize [i1]) 0)) := by
 have hr := nan_hyp hns; have hl := @nan_leaf F ns; have v0 : (E.var 0).ev (envOf F ns) = ns.getD 0 0 := rfl; have l0 : ∀ n : Int, (E.lit n).ev (envOf F ns) = n := fun _ => rfl
 have hq : nq.ev (envOf F ns) = IntKind.i64.wrap ((ns.getD 0 0).tdiv 65536) := rfl; have hm : nr.ev (envOf F ns) = (ns.getD 0 0).tmod 65536 := rfl; have hs : (E.bin .sub .i64 nq (.lit 1)).ev (envOf F ns) = IntKind.i64.wrap (nq.ev (envOf F ns) - 1) := rfl; rw [tdiv_c, i64_wrap] at hq; rw [tmod_c] at hm; rw [i64_wrap] at hs; unfold nanTreeA; simp only [br_lt, br_eq, v0, l0]; generalize ns.getD 0 0 = x at *
 refine ⟨fun c1 => hl ?_, fun c1 => ⟨fun c2 => hl ?_, fun c2 => ⟨fun c3 => hl ?_, fun c3 => hl ?_⟩⟩⟩ <;> split at hq <;> split at hm <;> omega
theorem nanB_holds (hns : shFits [i1] ns) : nanTreeB.holds (envOf F ns) fun x => x.flat = true /\ x.ev (envOf F ns) β0 = packV (shVals [i1] (fnVals nanF ns (shSize [i1]) 0)) := by
 have hr := nan_hyp hns; have hl := @nan_leaf F ns; have v0 : (E.var 0).ev (envOf F ns) = ns.getD 0 0 := rfl; have l0 : ∀ n : Int, (E.lit n).ev (envOf F ns) = n := fun _ => rfl
 have hg : ng.ev (envOf F ns) = -1 * ns.getD 0 0 := rfl; have hq : nbq.ev (envOf F ns) = IntKind.u64.wrap ((ng.ev (envOf F ns)).tdiv 65536) := rfl; have hm : (E.bin .rem .u64 ng (.lit 65536)).ev (envOf F ns) = (ng.ev (envOf F ns)).tmod 65536 := rfl; have h1 : nb1.ev (envOf F ns) = IntKind.i64.wrap (IntKind.i64.wrap (0 - IntKind.i64.wrap (IntKind.u64.wrap (IntKind.u64.wrap (nbq.ev (envOf F ns) + 1) - 1))) - 1) := rfl
 have h2 : nb2.ev (envOf F ns) = IntKind.i64.wrap (IntKind.i64.wrap (0 - IntKind.i64.wrap (IntKind.u64.wrap (nbq.ev (envOf F ns) - 1))) - 1) := rfl; have h3 : nb3.ev (envOf F ns) = IntKind.i64.wrap (IntKind.u64.wrap ((ns.getD 0 0).tdiv 65536)) := rfl; rw [tdiv_c, w64] at hq; rw [tmod_c] at hm; rw [tdiv_c] at h3; unfold nanTreeB; simp only [br_lt, br_eq, v0, l0]; generalize ns.getD 0 0 = x at *; refine ⟨fun c1 => ?_, fun c1 => hl ?_⟩
 ·have hge : 0 <= ng.ev (envOf F ns) := by omega
  rw [if_pos hge, hg] at hq hm; have hq' : nbq.ev (envOf F ns) = (-1 * x) / 65536 := by omega
  refine ⟨fun c2 => hl ?_, fun c2 => ⟨fun c3 => hl ?_, fun c3 => hl ?_⟩⟩
  ·have b0 : 0 <= nbq.ev (envOf F ns) /\ nbq.ev (envOf F ns) <= 140737488355328 := by omega
   rw [h1]; generalize nbq.ev (envOf F ns) = q at *; have t1 : IntKind.u64.wrap (IntKind.u64.wrap (q + 1) - 1) = q := by rw [w64, w64]; omega
   rw [t1, i64w (x := q) (by omega), i64w (x := 0 - q) (by omega), i64w (x := 0 - q - 1) (by omega)]; omega
  ·rw [l0]; omega
  ·have b0 : 0 <= nbq.ev (envOf F ns) /\ nbq.ev (envOf F ns) <= 140737488355328 := by omega
   rw [h2]; generalize nbq.ev (envOf F ns) = q at *; have t1 : IntKind.u64.wrap (q - 1) = q - 1 := by rw [w64]; omega
   rw [t1, i64w (x := q - 1) (by omega), i64w (x := 0 - (q - 1)) (by omega), i64w (x := 0 - (q - 1) - 1) (by omega)]; omega
 ·rw [if_pos (by omega), w64] at h3
  rw [h3, i64w (by omega)]; omega
end
theorem nanA_ok (v : List Int) (w : World) : SmOk Tryz.prog (envOf namesN v) w (fun _ => False) nanA :=
 smOk_at (sums := sumsD) (okF := okF) (keep := noKeep) (fuel := 80) (n := 30) mixed okF_ok (fun _ w' _ => sumsD_ok _ w') v fun ns hns => ⟨nan_fits hns, by
  show (retI (callF Tryz.prog [] okF sumsD noKeep 80 30 121 (varShs [i1] 0) .nil (varFacts [i1] 0))).holds _ _; rw [nanA_tree]; exact nanA_holds hns⟩
theorem nanB_ok (v : List Int) (w : World) : SmOk Tryz.prog (envOf namesN v) w (fun _ => False) nanB :=
 smOk_at (sums := sumsD) (okF := okF) (keep := noKeep) (fuel := 80) (n := 30) mixed okF_ok (fun _ w' _ => sumsD_ok _ w') v fun ns hns => ⟨nan_fits hns, by
  show (retI (callF Tryz.prog [] okF sumsD noKeep 80 30 118 (varShs [i1] 0) .nil (varFacts [i1] 0))).holds _ _; rw [nanB_tree]; exact nanB_holds hns⟩
end Rf
end
end Go.Proofs.YtfcpmapfhgibpaaGreatDoor
