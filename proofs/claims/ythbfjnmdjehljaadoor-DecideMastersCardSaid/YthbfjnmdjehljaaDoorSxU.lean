/- Functions that are named by their own trees. Of no program. -/
import Derived.Test.YthbfjnmdjehljaaDoorSxZ
namespace Go.Proofs.YthbfjnmdjehljaaDoor.SX
open Go Go.RowKit
set_option linter.unusedVariables false
set_option linter.unusedSimpArgs false

/-! ### Expressions without a name -/
mutual
def E.free (m : Nat) : E → Bool
  | .lit _ => true
  | .var _ => true
  | .rd _ _ i => E.free m i
  | .bin _ _ a b => E.free m a && E.free m b
  | .app f _ l => f != m && E.frees m l
def E.frees (m : Nat) : List E → Bool
  | [] => true
  | e :: l => E.free m e && E.frees m l
end
/-- Two meanings of names that differ at most at m. -/
def But (m : Nat) (F G : Nat → Nat → List Int → Int) : Prop := ∀ f, f ≠ m → F f = G f
mutual
theorem E.ev_free {m : Nat} {F G : Nat → Nat → List Int → Int} (h : But m F G) (ns : List Int) : ∀ e : E, e.free m = true → e.ev (envOf F ns) = e.ev (envOf G ns)
  | .lit _, _ => rfl
  | .var _, _ => rfl
  | .rd a f i, hf => by simp only [E.ev]; rw [E.ev_free h ns i hf]; rfl
  | .bin o k a b, hf => by
    simp only [E.free, Bool.and_eq_true] at hf
    simp only [E.ev]; rw [E.ev_free h ns a hf.1, E.ev_free h ns b hf.2]
  | .app f j l, hf => by
    simp only [E.free, Bool.and_eq_true, bne_iff_ne, ne_eq] at hf
    simp only [E.ev]
    rw [E.evs_free h ns l hf.2]
    show F f j _ = G f j _
    rw [h f hf.1]
theorem E.evs_free {m : Nat} {F G : Nat → Nat → List Int → Int} (h : But m F G) (ns : List Int) : ∀ l : List E, E.frees m l = true → E.evs (envOf F ns) l = E.evs (envOf G ns) l
  | [], _ => rfl
  | e :: l, hf => by
    simp only [E.frees, Bool.and_eq_true] at hf
    simp only [E.evs]; rw [E.ev_free h ns e hf.1, E.evs_free h ns l hf.2]
end
/-! ### The way that is taken -/
def T.pick {α : Type} (ρ : Env) : T α → Option α
  | .ok a => some a
  | .br c t e => if c.ev ρ ≠ 0 then t.pick ρ else e.pick ρ
  | .both _ _ => none
  | .bad _ => none
def unpackS (rs : List Sh) (v : SV) : List SV :=
  match rs, v with
  | [_], v => [v]
  | _, .tuple l => l
  | _, _ => []
def leafE (rs : List Sh) (o : Out) : Option (List E) := if o.v.flat = true ∧ rs.isEmpty = false then shTakes rs (unpackS rs o.v) else none
/-- A tree that names may stand for: no name m in it, no orders, flat ends. -/
def T.good (m : Nat) (rs : List Sh) : T Out → Bool
  | .ok o => match leafE rs o with
    | some es => E.frees m es
    | none => false
  | .br c t e => c.free m && t.good m rs && e.good m rs
  | .both _ _ => false
  | .bad _ => false
theorem T.good_pick {m : Nat} {rs : List Sh} {F G : Nat → Nat → List Int → Int} (h : But m F G) (ns : List Int) : ∀ {t : T Out}, t.good m rs = true →
    ∃ o es, t.pick (envOf G ns) = some o ∧ leafE rs o = some es ∧ E.evs (envOf F ns) es = E.evs (envOf G ns) es ∧ ∀ Q : Out → Prop, Q o → t.holds (envOf F ns) Q
  | .ok o, hg => by
    unfold T.good at hg
    split at hg
    · rename_i es he
      exact ⟨o, es, rfl, he, E.evs_free h ns es hg, fun Q hQ => hQ⟩
    · cases hg
  | .br c t e, hg => by
    simp only [T.good, Bool.and_eq_true] at hg
    have hc := E.ev_free h ns c hg.1.1
    obtain ⟨o, es, a1, a2, a3, a4⟩ := T.good_pick h ns hg.1.2
    obtain ⟨o', es', b1, b2, b3, b4⟩ := T.good_pick h ns hg.2
    by_cases h0 : c.ev (envOf G ns) = 0
    · refine ⟨o', es', by simp only [T.pick]; rw [if_neg (by simpa using h0)]; exact b1, b2, b3, fun Q hQ => ⟨fun h1 => absurd (hc.trans h0) h1, fun _ => b4 Q hQ⟩⟩
    · refine ⟨o, es, by simp only [T.pick]; rw [if_pos h0]; exact a1, a2, a3, fun Q hQ => ⟨fun _ => a4 Q hQ, fun h1 => absurd (hc.symm.trans h1) h0⟩⟩
  | .both _ _, hg => by cases hg
  | .bad _, hg => by cases hg
def lksWrap : List Lk → List Int → List Int
  | [], _ => []
  | l :: ls, ns => (match l with
    | .int k => k.wrap (ns.headD 0)
    | .bool => ns.headD 0) :: lksWrap ls ns.tail
def shLks : List Sh → List Lk
  | [] => []
  | .one l :: hs => l :: shLks hs
  | .agg ls :: hs => ls ++ shLks hs
/-- What a name stands for, by the tree of its function. -/
def autoF (G : Nat → Nat → List Int → Int) (rs : List Sh) (t : T Out) (j : Nat) (ns : List Int) : Int :=
  match t.pick (envOf G ns) with
  | some o => match leafE rs o with
    | some es => (lksWrap (shLks rs) (E.evs (envOf G ns) es)).getD j 0
    | none => 0
  | none => 0
theorem length_lksWrap : ∀ (ls : List Lk) (ns : List Int), (lksWrap ls ns).length = ls.length
  | [], _ => rfl
  | l :: ls, ns => by simp [lksWrap, length_lksWrap ls]
theorem fits_wrap : ∀ (ls : List Lk) (ns : List Int), SX.fits ls (lksWrap ls ns)
  | [], _ => trivial
  | .int k :: ls, ns => ⟨wf_wrap k _, fits_wrap ls _⟩
  | .bool :: ls, ns => ⟨trivial, fits_wrap ls _⟩
theorem wrap_fits : ∀ (ls : List Lk) (ns : List Int), ns.length = ls.length → SX.fits ls ns → lksWrap ls ns = ns
  | [], [], _, _ => rfl
  | [], _ :: _, h, _ => by cases h
  | _ :: _, [], h, _ => by cases h
  | .int k :: ls, n :: ns, h, hf => by
    have h1 : k.wrap n = n := wrap_fit ((wf_iff k n).1 hf.1)
    simp only [lksWrap, List.headD_cons, List.tail_cons, h1]
    rw [wrap_fits ls ns (by simpa using h) hf.2]
  | .bool :: ls, n :: ns, h, hf => by
    simp only [lksWrap, List.headD_cons, List.tail_cons]
    rw [wrap_fits ls ns (by simpa using h) hf.2]
theorem fits_app : ∀ (ls ms : List Lk) (ns : List Int), SX.fits (ls ++ ms) ns ↔ SX.fits ls ns ∧ SX.fits ms (ns.drop ls.length)
  | [], ms, ns => by simp [SX.fits]
  | l :: ls, ms, ns => by
    have := fits_app ls ms ns.tail
    have e : ns.tail.drop ls.length = ns.drop (ls.length + 1) := by cases ns <;> simp
    simp only [List.cons_append, SX.fits, this, e, List.length_cons]
    exact and_assoc.symm
theorem shFits_lks : ∀ (hs : List Sh) (ns : List Int), shFits hs ns ↔ SX.fits (shLks hs) ns
  | [], _ => Iff.rfl
  | .one l :: hs, ns => by
    have e : ns.drop 1 = ns.tail := by cases ns <;> simp
    simp only [shFits, Sh.fits, Sh.size, shLks, SX.fits, shFits_lks hs, e]
  | .agg ls :: hs, ns => by
    simp only [shFits, Sh.fits, Sh.size, shLks, shFits_lks hs, fits_app]
theorem length_shLks : ∀ hs : List Sh, (shLks hs).length = shSize hs
  | [] => rfl
  | .one l :: hs => by simp [shLks, shSize, Sh.size, length_shLks hs, Nat.add_comm]
  | .agg ls :: hs => by simp [shLks, shSize, Sh.size, length_shLks hs]
theorem shTakes_len : ∀ {hs : List Sh} {ss : List SV} {es : List E}, shTakes hs ss = some es → es.length = shSize hs
  | [], [], es, h => by obtain rfl := Option.some.inj h; rfl
  | [], _ :: _, es, h => by cases h
  | _ :: _, [], es, h => by cases h
  | h :: hs, s :: ss, es, ht => by
    unfold shTakes at ht
    split at ht
    · rename_i e es' he hes
      obtain rfl := Option.some.inj ht
      have h1 := shTakes_len hes
      have h2 : e.length = h.size := by
        have htk : ∀ {ls : List Lk} {ss : List SV} {es : List E}, takes ls ss = some es → es.length = ls.length := fun {ls} => by
          induction ls with
          | nil => intro ss es h; cases ss with
            | nil => obtain rfl := Option.some.inj h; rfl
            | cons s ss => cases h
          | cons l ls ih => intro ss es h; cases ss with
            | nil => cases h
            | cons s ss =>
              unfold takes at h
              split at h
              · rename_i e es' _ hes
                obtain rfl := Option.some.inj h
                simp [ih hes]
              · cases h
        unfold Sh.take at he
        split at he
        · rename_i l
          cases hl : l.take s with
          | none => simp [hl] at he
          | some e' => simp only [hl, Option.map_some, Option.some.injEq] at he; subst he; rfl
        · exact htk he
        · cases he
      simp only [List.length_append, h1, h2, shSize, List.map_cons, List.foldr_cons]
    · cases ht
theorem fnVals_getD (L : List Int) (ns : List Int) : ∀ (F : Nat → List Int → Int) (j : Nat), (∀ i, F (j + i) ns = L.getD i 0) → fnVals F ns L.length j = L := by
  induction L with
  | nil => intro F j _; rfl
  | cons x L ih =>
    intro F j h
    have h0 := h 0
    simp only [fnVals, List.length_cons, List.range'_succ, List.map_cons]
    have : (List.range' (j + 1) L.length).map (fun i => F i ns) = L := ih F (j + 1) fun i => by
      have := h (i + 1)
      rw [show j + 1 + i = j + (i + 1) by omega, this]
      simp
    rw [this]
    simp at h0
    rw [h0]
section
variable {P : Program} {F G : Nat → Nat → List Int → Int} {okF : FuncId → Bool} {sums : Sums} {keep : FuncId → Nat → List Nat} {fuel n : Nat}
theorem packV_unpack {rs : List Sh} {v : SV} {es : List E} {ρ : Env} {k : Nat} (h0 : rs.isEmpty = false) (hv : v.ok ρ k) (h : shTakes rs (unpackS rs v) = some es) : v.ev ρ β0 = packV (SV.evs ρ β0 (unpackS rs v)) ∧ SV.oks ρ k (unpackS rs v) := by
  match rs, h0, h with
  | [], h0, _ => cases h0
  | [_], _, _ => exact ⟨rfl, hv, trivial⟩
  | a :: b :: c, _, h =>
    cases v with
    | tuple l =>
      refine ⟨?_, hv⟩
      match l, h with
      | [], h => cases h
      | [s], h =>
        exfalso
        simp only [unpackS] at h
        unfold shTakes at h
        split at h
        · rename_i hes
          simp [shTakes] at hes
        · cases h
      | _ :: _ :: _, _ => rfl
    | _ => simp [unpackS, shTakes] at h
/-- What a function returns by its tree, at arguments in range, and what is known there. -/
theorem leaf_run (hm : P.follows .mixedOrders = true) (hok : ∀ f, okF f = true → ∀ as w, (callFunc f as).run P w = .ok (.enter f as) w) {name : Nat} (hB : But name F G) {f : FuncId} {ps rs : List Sh} {ns : List Int} (hns : shFits ps ns) {w : World}
    (hsum : SumsOk P (envOf F ns) w (fun _ => False) sums) {fs0 : Fs} (hfs : FsOk (envOf F ns) fs0) (hg : (callF P [] okF sums keep fuel n f (varShs ps 0) .nil fs0).good name rs = true) :
    ∃ o es, (callF P [] okF sums keep fuel n f (varShs ps 0) .nil fs0).pick (envOf G ns) = some o ∧ leafE rs o = some es ∧ E.evs (envOf F ns) es = E.evs (envOf G ns) es ∧
      Calls P f (shVals ps ns).toArray w fun e w' => e = .returned (packV (shVals rs (E.evs (envOf F ns) es))) ∧ FsOk (envOf F ns) o.fs ∧ shFits rs (E.evs (envOf F ns) es) ∧ Below w.heap.size w w' := by
  obtain ⟨o, es, p1, p2, p3, p4⟩ := T.good_pick hB ns hg
  obtain ⟨e1, e2, e3⟩ := varShs_spec (F := F) (β := β0) (n := 0) (hs := ps) (i := 0) hns
  rw [List.drop_zero] at e1
  refine ⟨o, es, p1, p2, p3, ?_⟩
  have hr := (callF_run (gl := []) (keep := keep) (fuel := fuel) hm hok hsum n f (varShs ps 0) .nil fs0 β0 w (fun v w' => v = packV (shVals rs (E.evs (envOf F ns) es)) ∧ FsOk (envOf F ns) o.fs ∧ shFits rs (E.evs (envOf F ns) es) ∧ Below w.heap.size w w') (heap_nil ..) hfs e2 (fun _ h => by cases h)
    (p4 _ fun β' w' _ _ _ hh hf hv => by
      unfold leafE at p2
      split at p2
      · rename_i hc
        obtain ⟨q1, q2⟩ := packV_unpack hc.2 hv p2
        obtain ⟨r1, r2⟩ := shTakes_spec (β := β0) q2 p2
        exact ⟨by rw [SV.ev_flat β' β0 _ hc.1, q1, r1], hf, r2, hh.kept.to_below⟩
      · cases p2)).2
  rw [e1] at hr
  exact hr.mono fun e w' ⟨v, he, hv, hx⟩ => ⟨by rw [he, hv], hx⟩
theorem calls_some {f : FuncId} {args : Array Value} {w : World} {R : Ending → World → Prop} {X : Prop} (h : Calls P f args w R) (hx : ∀ e w', R e w' → X) : X := by
  obtain ⟨e, w', fr, hr, _⟩ := h []
  exact hx e w' hr
/-- A function is its name, if the name stands for what its tree says. -/
theorem smAuto (hm : P.follows .mixedOrders = true) (hok : ∀ f, okF f = true → ∀ as w, (callFunc f as).run P w = .ok (.enter f as) w) {s : Sm} (hB : But s.name F G) {w0 : World} {M : Nat → Prop}
    (hsum : ∀ (ns : List Int) (w : World), Kept w0 M w → SumsOk P (envOf F ns) w (fun _ => False) sums) {ρ : Env} (hρ : ρ.fn = F)
    (hF : ∀ ns j, F s.name j ns = autoF G s.rs (callF P [] okF sums keep fuel n s.f (varShs s.ps 0) .nil (varFacts s.ps 0)) j ns)
    (hg : (callF P [] okF sums keep fuel n s.f (varShs s.ps 0) .nil (varFacts s.ps 0)).good s.name s.rs = true) : SmOk P ρ w0 M s := fun ns hns => by
  rw [hρ]
  have hfs := varFacts_ok (F := F) (hs := s.ps) (i := 0) (ns := ns) (by rwa [List.drop_zero])
  have key : ∀ w, Kept w0 M w → shFits s.rs (fnVals (F s.name) ns (shSize s.rs) 0) ∧ Calls P s.f (shVals s.ps ns).toArray w fun e w' => e = .returned (packV (shVals s.rs (fnVals (F s.name) ns (shSize s.rs) 0))) ∧ Below w.heap.size w w' := fun w hw => by
    obtain ⟨o, es, p1, p2, p3, hc⟩ := leaf_run hm hok hB hns (hsum ns w hw) hfs hg
    have hfit : shFits s.rs (E.evs (envOf F ns) es) := calls_some hc fun _ _ h => h.2.2.1
    have hlen : es.length = shSize s.rs := by
      unfold leafE at p2
      split at p2
      · exact shTakes_len p2
      · cases p2
    have hlen' : (E.evs (envOf F ns) es).length = shSize s.rs := by rw [evs_len, hlen]
    have hval : fnVals (F s.name) ns (shSize s.rs) 0 = E.evs (envOf F ns) es := by
      rw [← hlen']
      refine fnVals_getD _ ns _ 0 fun i => ?_
      rw [Nat.zero_add, hF ns i]
      unfold autoF
      simp only [p1, p2]
      rw [← p3, wrap_fits _ _ (by rw [hlen', length_shLks]) ((shFits_lks _ _).1 hfit)]
    rw [hval]
    exact ⟨hfit, hc.mono fun e w' h => ⟨h.1, h.2.2.2⟩⟩
  exact ⟨(key w0 (Kept.refl w0 M)).1, fun w hw => (key w hw).2⟩
theorem SmOk.congr {ρ ρ' : Env} {w0 : World} {M : Nat → Prop} {s : Sm} (he : ρ'.fn s.name = ρ.fn s.name) (h : SmOk P ρ w0 M s) : SmOk P ρ' w0 M s := fun ns hns => by
  rw [he]; exact h ns hns
/-- The ends of another function say the same by what is known. -/
def sameE (fs : Fs) : List E → List E → Bool
  | [], [] => true
  | a :: l, b :: m => (a.beq b || (canon fs a).beq (canon fs b)) && sameE fs l m
  | _, _ => false
theorem sameE_spec {ρ : Env} {fs : Fs} (hf : FsOk ρ fs) : ∀ {l m : List E}, sameE fs l m = true → E.evs ρ l = E.evs ρ m
  | [], [], _ => rfl
  | [], _ :: _, h => by cases h
  | _ :: _, [], h => by cases h
  | a :: l, b :: m, h => by
    simp only [sameE, Bool.and_eq_true, Bool.or_eq_true] at h
    simp only [E.evs]
    rw [sameE_spec hf h.2]
    congr 1
    rcases h.1 with h | h
    · rw [E.beq_eq _ _ h]
    · rw [← canon_ev hf a, ← canon_ev hf b, E.beq_eq _ _ h]
def sameO (rs : List Sh) (a b : Out) : Bool :=
  match leafE rs a, leafE rs b with
  | some es, some es' => sameE b.fs es es'
  | _, _ => false
def both2 (P : Program) (okF : FuncId → Bool) (sums : Sums) (keep : FuncId → Nat → List Nat) (fuel n : Nat) (f g : FuncId) (ps : List Sh) : T (Out × Out) :=
  (callF P [] okF sums keep fuel n f (varShs ps 0) .nil (varFacts ps 0)).bind fun a => (callF P [] okF sums keep fuel n g (varShs ps 0) .nil a.fs).bind fun b => .ok (a, b)
/-- Another function has the same name, if its tree says the same. -/
theorem smAuto2 (hm : P.follows .mixedOrders = true) (hok : ∀ f, okF f = true → ∀ as w, (callFunc f as).run P w = .ok (.enter f as) w) {s : Sm} {g : FuncId} (hB : But s.name F G) {w0 : World} {M : Nat → Prop}
    (hsum : ∀ (ns : List Int) (w : World), Kept w0 M w → SumsOk P (envOf F ns) w (fun _ => False) sums) {ρ : Env} (hρ : ρ.fn = F)
    (hF : ∀ ns j, F s.name j ns = autoF G s.rs (callF P [] okF sums keep fuel n s.f (varShs s.ps 0) .nil (varFacts s.ps 0)) j ns)
    (hg : (callF P [] okF sums keep fuel n s.f (varShs s.ps 0) .nil (varFacts s.ps 0)).good s.name s.rs = true)
    (h2 : (both2 P okF sums keep fuel n s.f g s.ps).all (fun p => sameO s.rs p.1 p.2) = true) : SmOk P ρ w0 M { s with f := g } := fun ns hns => by
  have hA := smAuto hm hok hB hsum hρ hF hg ns hns
  refine ⟨hA.1, fun w hw => ?_⟩
  rw [hρ] at hA ⊢
  have hfs := varFacts_ok (F := F) (hs := s.ps) (i := 0) (ns := ns) (by rwa [List.drop_zero])
  obtain ⟨o, es, p1, p2, p3, hc⟩ := leaf_run hm hok hB hns (hsum ns w hw) hfs hg
  have hfo : FsOk (envOf F ns) o.fs := calls_some hc fun _ _ h => h.2.1
  have hval : packV (shVals s.rs (E.evs (envOf F ns) es)) = packV (shVals s.rs (fnVals (F s.name) ns (shSize s.rs) 0)) := by
    obtain ⟨e, w', fr, hr, hcomes⟩ := hc []
    have hfit := hr.2.2.1
    have hlen : es.length = shSize s.rs := by
      unfold leafE at p2
      split at p2
      · exact shTakes_len p2
      · cases p2
    have hlen' : (E.evs (envOf F ns) es).length = shSize s.rs := by rw [evs_len, hlen]
    have : fnVals (F s.name) ns (shSize s.rs) 0 = E.evs (envOf F ns) es := by
      rw [← hlen']
      refine fnVals_getD _ ns _ 0 fun i => ?_
      rw [Nat.zero_add, hF ns i]
      unfold autoF
      simp only [p1, p2]
      rw [← p3, wrap_fits _ _ (by rw [hlen', length_shLks]) ((shFits_lks _ _).1 hfit)]
    rw [this]
  obtain ⟨e1, e2, e3⟩ := varShs_spec (F := F) (β := β0) (n := 0) (hs := s.ps) (i := 0) (ns := ns) (by rwa [List.drop_zero])
  rw [List.drop_zero] at e1
  -- the other's tree at the way that is taken
  have hpick : ∀ {t : T Out} {Q : Out → Prop}, t.pick (envOf G ns) = some o → t.good s.name s.rs = true → t.holds (envOf F ns) Q → Q o := fun {t} => by
    induction t with
    | ok a => intro Q hp _ hh; obtain rfl := Option.some.inj hp; exact hh
    | br c t e iht ihe =>
      intro Q hp hg hh
      simp only [T.good, Bool.and_eq_true] at hg
      have hcf := E.ev_free hB ns c hg.1.1
      simp only [T.pick] at hp
      split at hp
      · rename_i h0; exact iht hp hg.1.2 (hh.1 (by rw [hcf]; exact h0))
      · rename_i h0; exact ihe hp hg.2 (hh.2 (by rw [hcf]; simpa using h0))
    | both t e _ _ => intro Q hp; cases hp
    | bad k => intro Q hp; cases hp
  have hall := T.all_holds (ρ := envOf F ns) h2
  unfold both2 at hall
  rw [T.holds_bind] at hall
  have hB2 := hpick p1 hg hall
  rw [T.holds_bind] at hB2
  have hr := (callF_run (gl := []) (keep := keep) (fuel := fuel) hm hok (hsum ns w hw) n g (varShs s.ps 0) .nil o.fs β0 w (fun v w' => v = packV (shVals s.rs (fnVals (F s.name) ns (shSize s.rs) 0)) ∧ Below w.heap.size w w') (heap_nil ..) hfo e2 (fun _ h => by cases h)
    (T.holds_mono (fun b hb β' w' _ _ _ hh hf hv => by
      have hb : sameO s.rs o b = true := hb
      unfold sameO at hb
      rw [p2] at hb
      split at hb
      · rename_i es1 es' he1 he2
        obtain rfl := Option.some.inj he1
        have hs := sameE_spec hf hb
        unfold leafE at he2
        split at he2
        · rename_i hcc
          obtain ⟨q1, q2⟩ := packV_unpack hcc.2 hv he2
          obtain ⟨r1, r2⟩ := shTakes_spec (β := β0) q2 he2
          exact ⟨by rw [SV.ev_flat β' β0 _ hcc.1, q1, r1, ← hs, hval], hh.kept.to_below⟩
        · cases he2
      · cases hb) hB2)).2
  rw [e1] at hr
  exact hr.mono fun e w' ⟨v, he, hv, hx⟩ => ⟨by rw [he, hv], hx⟩
end
end Go.Proofs.YthbfjnmdjehljaaDoor.SX
