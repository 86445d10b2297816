/- Methods that return slices; methods with loops; methods that tell the same. -/
import Derived.Test.YtfcpmapfhgibpaaGreatDoorWm
import Derived.Test.YtfcpmapfhgibpaaGreatDoorWo
import Derived.Test.YtfcpmapfhgibpaaGreatDoorWl
import Derived.Test.YtfcpmapfhgibpaaGreatDoorWf
set_option linter.unusedVariables false
set_option linter.unusedSimpArgs false
set_option maxRecDepth 1000000
namespace Go.Proofs.YtfcpmapfhgibpaaGreatDoor
noncomputable section
open Go Go.RowKit SX Frm Frn
structure MethS where
 m : Meth
 ks : List Lk
 ty : TypeId
 tl : Nat
abbrev Slc := Option (Nat × Nat × Option Nat)
def slPart : SV -> Option Slc
 | .slice b 0 k cap => some (some (b, k, cap))
 | .raw (.slice none 0 0) => some none
 | _ => none
def slOf : SV -> Option (Slc × List SV)
 | .tuple (s :: l) => match l with
  | [] => none
  | l => (slPart s).map fun x => (x, l)
 | s => (slPart s).map fun x => (x, [])
def capOk (tl k : Nat) : Option Nat -> Bool
 | some c => Nat.beq tl 0 && Nat.beq c k
 | none => !Nat.beq tl 0
def repK (k : Nat) (ks : List Lk) : List Lk := (List.replicate k ks).flatten
def MethS.parts (m : MethS) (o : Out) : Option (Nat × List E × List E) :=
 match slOf o.v with
 | some (none, l) => (shTakes m.m.rs l).map fun es => (0, es, [])
 | some (some (b, k, cap), l) => match o.hp.at b with
  | some ⟨true, .cells c ty tl⟩ => if ty = m.ty /\ tl = m.tl /\ capOk m.tl k cap = true /\ 1 <= k /\ k <= 8 then (match shTakes m.m.rs l, takes (repK k m.ks) c with
    | some es, some cs => some (k, es, cs)
    | _, _ => none) else none
  | _ => none
 | none => none
def free2 (n : Nat) (es : List E) : Bool := E.frees n es && E.frees (n + 1) es
def slApart (n : Nat) (π : Nat -> Nat) (o : Out) : Bool := match slOf o.v with
 | some (some (b, _, _), _) => (List.range n).all fun j => !Nat.beq (π j) b
 | _ => true
def MethS.leaf (kp : Nat) (rs : List Rule) (a : Fam) (m : MethS) (o : Out) : Bool :=
 (famFit rs a o fun σ π => (match m.parts o with | some (_, es, cs) => free2 m.m.name es && free2 m.m.name cs | none => false) && free2 m.m.name ((List.range a.nv).map σ) && ((List.range kp).all fun i => E.beq (σ i) (.var i)) && slApart a.bs.length π o) && SV.flats (match slOf o.v with | some (_, l) => l | none => [])
def MethS.good (kp : Nat) (rs : List Rule) (a : Fam) (m : MethS) : T Out -> Bool
 | .ok o => m.leaf kp rs a o
 | .br c t e => free2 m.m.name [c] && m.good kp rs a t && m.good kp rs a e
 | .both _ _ => false
 | .bad _ => false
def But2 (n : Nat) (F G : Mng) : Prop := ∀ f, f ≠ n -> f ≠ n + 1 -> F f = G f
theorem evs_free2 {n : Nat} {F G : Mng} (h : But2 n F G) (ns : List Int) {es : List E} (he : free2 n es = true) : E.evs (envOf F ns) es = E.evs (envOf G ns) es := by
 simp only [free2, bAnd] at he
 let H : Mng := fun f => if f = n then F f else G f
 have h1 : But (n + 1) F H := fun f hf => by
  by_cases e : f = n
  ·simp only [H, if_pos e]
  ·simp only [H, if_neg e]; exact h f e hf
 have h2 : But n H G := fun f hf => if_neg hf
 rw [E.evs_free h1 ns es he.2, E.evs_free h2 ns es he.1]
theorem MethS.pick_good {kp : Nat} {rs : List Rule} {m : MethS} {a : Fam} {F G : Mng} (h : But2 m.m.name F G) (ns : List Int) : ∀ {t : T Out}, m.good kp rs a t = true ->
  ∃ o, t.pickB (envOf G ns) = some o /\ m.leaf kp rs a o = true /\ ∀ Q : Out -> Prop, Q o -> t.holds (envOf F ns) Q
 | .ok o, hg => ⟨o, rfl, hg, fun Q hQ => hQ⟩
 | .br c t e, hg => by
  simp only [MethS.good, bAnd] at hg
  have hc : c.ev (envOf F ns) = c.ev (envOf G ns) := by
   have := evs_free2 h ns hg.1.1
   simpa only [E.evs, List.cons.injEq, and_true] using this
  by_cases h0 : c.ev (envOf G ns) = 0
  ·obtain ⟨o', b1, b2, b3⟩ := MethS.pick_good (m := m) (a := a) h ns hg.2
   exact ⟨o', by simp only [T.pickB]; rw [if_neg (by simpa using h0)]; exact b1, b2, fun Q hQ => ⟨fun h1 => absurd (hc.trans h0) h1, fun _ => b3 Q hQ⟩⟩
  ·obtain ⟨o, a1, a2, a3⟩ := MethS.pick_good (m := m) (a := a) h ns hg.1.2
   exact ⟨o, by simp only [T.pickB]; rw [if_pos h0]; exact a1, a2, fun Q hQ => ⟨fun _ => a3 Q hQ, fun h1 => absurd (hc.symm.trans h1) h0⟩⟩
 | .both t e, hg => by cases hg
 | .bad _, hg => by cases hg
def methVS (G : Mng) (a : Fam) (m : MethS) (t : Nat) (tr : T Out) (j : Nat) (ns : List Int) : Int :=
 match tr.pickB (envOf G ns) with
 | some o => if j = 0 then codL ((t : Int) :: famNs a o (envOf G ns)) else match m.parts o with
  | some (k, es, _) => if j = 1 then (k : Int) else (E.evs (envOf G ns) es).getD (j - 2) 0
  | none => 0
 | none => 0
def methCS (G : Mng) (m : MethS) (tr : T Out) (i : Nat) (ns : List Int) : Int :=
 match tr.pickB (envOf G ns) with
 | some o => match m.parts o with
  | some (_, _, cs) => (E.evs (envOf G ns) cs).getD i 0
  | none => 0
 | none => 0
def liesV (V : List Value) (ty tl : Nat) (bv : Nat × Nat) (w : World) : Prop :=
 match tl with
 | 0 => w.heap[bv.1]? = some (.cells V.toArray ty (0, 0))
 | s + 1 => ∃ rest : List Value, w.heap[bv.1]? = some (.cells (V ++ rest).toArray ty (0, 0)) /\ V.length + rest.length = bv.2 * s
def SlIs (m : MethS) (k : Nat) (ns : List Int) (φ φ' : Nat -> Prop) (w w' : World) (v : Value) : Prop :=
 (k = 0 /\ v = .slice none 0 0) \/ (1 <= k /\ k <= 8 /\ ∃ b c, v = .slice (some ⟨b, 0, none⟩) k (if m.tl = 0 then k else c) /\ (φ b \/ w.heap.size <= b) /\ ¬ φ' b /\ SX.fits (repK k m.ks) ns /\ ns.length = (repK k m.ks).length /\ liesV (vals (repK k m.ks) ns) m.ty m.tl (b, c) w')
theorem slPart_none {s : SV} (h : slPart s = some none) : s = .raw (.slice none 0 0) := by
 unfold slPart at h; split at h
 ·cases h
 ·rfl
 ·cases h
theorem slPart_some {s : SV} {b k : Nat} {cap : Option Nat} (h : slPart s = some (some (b, k, cap))) : s = .slice b 0 k cap := by
 unfold slPart at h; split at h
 ·cases h; rfl
 ·cases h
 ·cases h
theorem slOf_spec {v : SV} {x : Slc} {l : List SV} (h : slOf v = some (x, l)) : ∃ s, slPart s = some x /\ (∀ (ρ : Env) (β : Bm), v.ev ρ β = packV (s.ev ρ β :: SV.evs ρ β l)) /\ ∀ (ρ : Env) (n : Nat), v.ok ρ n -> s.ok ρ n /\ SV.oks ρ n l := by
 unfold slOf at h; split at h
 ·rename_i s l0
  split at h
  ·cases h
  ·rename_i hne
   obtain ⟨y, hy, e⟩ := Option.map_eq_some_iff.1 h; obtain ⟨rfl, rfl⟩ := Prod.mk.inj e; refine ⟨s, hy, fun ρ β => ?_, fun ρ n ho => ho⟩
   cases l0 with
   | nil => exact absurd rfl hne
   | cons a l0 => rfl
 ·rename_i s hs
  obtain ⟨y, hy, e⟩ := Option.map_eq_some_iff.1 h; obtain ⟨rfl, rfl⟩ := Prod.mk.inj e; exact ⟨v, hy, fun ρ β => rfl, fun ρ n ho => ⟨ho, trivial⟩⟩
theorem lies_V {ρ : Env} {β : Bm} {c : List SV} {ty tl : Nat} {bv : Nat × Nat} {w : World} : (Bx.cells c ty tl).lies ρ β bv w ↔ liesV (SV.evs ρ β c) ty tl bv w := by
 cases tl with
 | zero => exact Iff.rfl
 | succ s =>
  simp only [Bx.lies, liesV]; rw [SV.evs_map, List.length_map]
theorem Heap.tlayO {O : Nat -> List Int -> Nat -> (Nat -> Prop) -> World -> Prop} {ρ : Env} {w0 w : World} {M : Nat -> Prop} {β : Bm} {bs : List Box} {n m : Nat} {ψ : Nat -> Nat -> Prop} (h : Heap ρ w0 M β (Hp.ofL bs) w) (ho : ObjsOk ρ w0 M β (Hp.ofL bs) ψ w) (hb : bs.all (fun b => b.rw && b.c.part n m) = true)
  (hO : ∀ (k : Nat) (x : Box) (q : Nat) (es : List E), bs[k]? = some x -> x.c = .obj q es -> ∀ vs b φ w, Ob q vs b φ w -> O q vs b φ w) : TLay O ρ bs β ψ w /\ ∀ i, blksT bs β ψ i -> M i \/ w0.heap.size <= i := by
 refine ⟨⟨fun k x hk => h.lies k x (ofL_at.2 hk), fun k x hk => h.good k x (ofL_at.2 hk), fun j k x y hj hk => h.inj j k x y (ofL_at.2 hj) (ofL_at.2 hk), fun k x q es hk e => hO k x q es hk e _ _ _ _ (ho.has k x q es (ofL_at.2 hk) e), fun j k x y hj hk => ho.apart j k x y (ofL_at.2 hj) (ofL_at.2 hk)⟩, fun i hi => ?_⟩
 obtain ⟨k, x, hk, h1⟩ := hi; have hp := lAl.1 hb x (List.mem_of_getElem? hk); simp only [bAnd] at hp; rcases h1 with ⟨hv, rfl⟩ | ⟨hv, h1⟩
 ·exact h.mine k x (ofL_at.2 hk) hp.1 hv
 ·exact ho.own k x (ofL_at.2 hk) hv i h1
section
variable {G0 : Mng} {O : Nat -> List Int -> Nat -> (Nat -> Prop) -> World -> Prop}
theorem leafS_end {kp : Nat} {rs : List Rule} {m : MethS} {a : Fam} (hfam : a.ok 60 = true) (hO : ∀ (k : Nat) (x : Box) (q : Nat) (es : List E), a.bs[k]? = some x -> x.c = .obj q es -> ∀ vs b φ w, O q vs b φ w ↔ Ob q vs b φ w)
  {ρ : Env} (hF : ∀ f, f < 60 -> ρ.fn f = G0 f) (hfa : SX.FsOk ρ a.fs) {M : Nat -> Prop} {β' : Bm} {w w' : World} {o : Out} (hh' : Heap ρ w M β' o.hp w') (hf' : SX.FsOk ρ o.fs) (hv : o.v.ok ρ o.hp.n) (hR : ∀ r ∈ rs, RuleOk ρ r) (p2 : m.leaf kp rs a o = true) :
  ∃ k es cs sv, m.parts o = some (k, es, cs) /\ (∀ i, i < kp -> famS a o i = .var i) /\ o.v.ev ρ β' = packV (sv :: shVals m.m.rs (E.evs ρ es)) /\ shFits m.m.rs (E.evs ρ es) /\
   ∃ β2 ψ', (β2 0).1 = (β' 0).1 /\ (∀ p ∈ a.fs, (p.1.ev (envT G0 (famNs a o ρ)) ≠ 0 ↔ p.2 = true)) /\ TLay O (envT G0 (famNs a o ρ)) a.bs β2 ψ' w' /\ (∀ i, blksT a.bs β2 ψ' i -> M i \/ w.heap.size <= i) /\ SlIs m k (E.evs ρ cs) M (blksT a.bs β2 ψ') w w' sv := by
 have hparts := Fam.parts hfam; have hfam' := hfam; simp only [Fam.ok, bAnd, blt_iff, dEq] at hfam'; obtain ⟨⟨hpos, _⟩, hwf⟩ := hfam'; rw [MethS.leaf, famFit_eq] at p2; simp only [bAnd, beq_iff, dEq] at p2; obtain ⟨⟨⟨l1, l1'⟩, ⟨l0, l2⟩, ⟨⟨l3, l4⟩, l5⟩, l7⟩, l6⟩ := p2
 obtain ⟨k, es, cs, he⟩ : ∃ k es cs, m.parts o = some (k, es, cs) := by
  split at l3
  ·rename_i k es cs he
   exact ⟨k, es, cs, he⟩
  ·cases l3
 have hfsR := addRules_ok hf' hR; have hheap : Heap (envSub ρ (famS a o)) w M (fun k => β' (famP a o k)) (Hp.ofL a.bs) w' := lay_fit (st := famSt o) hh' hfsR l1 l1'
 obtain ⟨φ, ho⟩ := hh'.objs; have hobjs := lay_objs (w0 := w) (M := M) (st := famSt o) hfsR l1 l1' ho; obtain ⟨t1, t2⟩ := Heap.tlayO hheap hobjs hparts fun k x q es hk e vs b φ w => (hO k x q es hk e vs b φ w).2
 have hnr : Near a.nv 60 (envSub ρ (famS a o)) (envT G0 (famNs a o ρ)) := ⟨fun i hi => by
  show (famS a o i).ev _ = (famNs a o _).getD i 0; unfold famNs; rw [gDe, lMp, lRa hi]; rfl, fun f hf => hF f hf⟩
 have he' := he; unfold MethS.parts at he'
 have fin : ∀ (sv : Value) (l : List SV), SV.flats l = true -> SV.oks ρ o.hp.n l -> shTakes m.m.rs l = some es -> o.v.ev ρ β' = packV (sv :: SV.evs ρ β' l) ->
   SlIs m k (E.evs ρ cs) M (blksT a.bs (fun k => β' (famP a o k)) (fun k => φ (famP a o k))) w w' sv -> ∃ sv, o.v.ev ρ β' = packV (sv :: shVals m.m.rs (E.evs ρ es)) /\ shFits m.m.rs (E.evs ρ es) /\
   ∃ β2 ψ', (β2 0).1 = (β' 0).1 /\ (∀ p ∈ a.fs, (p.1.ev (envT G0 (famNs a o ρ)) ≠ 0 ↔ p.2 = true)) /\ TLay O (envT G0 (famNs a o ρ)) a.bs β2 ψ' w' /\ (∀ i, blksT a.bs β2 ψ' i -> M i \/ w.heap.size <= i) /\
    SlIs m k (E.evs ρ cs) M (blksT a.bs β2 ψ') w w' sv := fun sv l hfl hol hta hev hsl => by
  obtain ⟨r1, r2⟩ := shTakes_spec (β := β') hol hta; refine ⟨sv, by rw [hev, r1], r2, fun k => β' (famP a o k), fun k => φ (famP a o k), ?_, facts_near hnr hwf (fitFQ_ok hfsR hfa l0), t1.near hnr hparts, t2, hsl⟩
  show (β' (famP a o 0)).1 = _; rw [l2]
 refine ⟨k, es, cs, ?_⟩
 have key : ∃ sv, o.v.ev ρ β' = packV (sv :: shVals m.m.rs (E.evs ρ es)) /\ shFits m.m.rs (E.evs ρ es) /\
   ∃ β2 ψ', (β2 0).1 = (β' 0).1 /\ (∀ p ∈ a.fs, (p.1.ev (envT G0 (famNs a o ρ)) ≠ 0 ↔ p.2 = true)) /\ TLay O (envT G0 (famNs a o ρ)) a.bs β2 ψ' w' /\ (∀ i, blksT a.bs β2 ψ' i -> M i \/ w.heap.size <= i) /\
    SlIs m k (E.evs ρ cs) M (blksT a.bs β2 ψ') w w' sv := by
  split at he'
  ·rename_i l hsl
   obtain ⟨es0, h1, h2⟩ := Option.map_eq_some_iff.1 he'; simp only [Prod.mk.injEq] at h2; obtain ⟨rfl, rfl, rfl⟩ := h2; obtain ⟨s, s1, s2, s3⟩ := slOf_spec hsl; rw [hsl] at l6; refine fin _ l l6 (s3 _ _ hv).2 h1 (s2 _ _) (.inl ⟨rfl, ?_⟩); rw [slPart_none s1]; rfl
  ·rename_i b k0 cap l hsl
   split at he'
   ·rename_i c ty tl hat
    split at he'
    ·rename_i hc
     obtain ⟨rfl, rfl, c3, c4, c5⟩ := hc; split at he'
     ·rename_i es0 cs0 h1 h2
      simp only [sEq, Prod.mk.injEq] at he'; obtain ⟨rfl, rfl, rfl⟩ := he'; obtain ⟨s, s1, s2, s3⟩ := slOf_spec hsl; have l7' := l7; unfold slApart at l7'; rw [hsl] at l6 l7'; have hok := hh'.good b _ hat; obtain ⟨d1, d2, d3⟩ := takes_spec (β := β') [] hok h2; rw [List.append_nil] at d1 d2; refine fin _ l l6 (s3 _ _ hv).2 h1 (s2 _ _) (.inr ⟨c4, c5, (β' b).1, (β' b).2, ?_, ?_, ?_, d2, by rw [evs_len, d3], ?_⟩)
      ·rw [slPart_some s1]
       show Value.slice (some ⟨(β' b).1, 0, none⟩) k0 (cap.getD (β' b).2) = _; cases cap with
       | none =>
        simp only [capOk, Bool.not_eq_true', beq_iff, decide_eq_false_iff_not] at c3; rw [if_neg c3]; rfl
       | some c0 =>
        simp only [capOk, bAnd, beq_iff, dEq] at c3; rw [if_pos c3.1, c3.2]; rfl
      ·exact hh'.mine b _ hat rfl rfl
      ·rintro ⟨j, x, hj, h3⟩
       obtain ⟨b1, _, b3⟩ := lay_box (st := famSt o) l1' (ofL_at.2 hj)
       have hne : famP a o j ≠ b := by
        have := lAl.1 l7' j (mRa.2 (lSo.1 hj).1)
        simpa only [Bool.not_eq_true', beq_iff, decide_eq_false_iff_not] using this
       rcases h3 with ⟨hv3, h3⟩ | ⟨hv3, h3⟩
       ·exact hne (hh'.inj _ _ _ _ b1 hat ((Bx.fit_spec (β := β') (w := w') (m := o.hp.n) hfsR b3).2.2.1 hv3) rfl h3)
       ·obtain ⟨q, es3, e⟩ := Bx.obj_of hv3
        rw [e] at b3; obtain ⟨es', g1, g2⟩ := Bx.fit_obj hfsR b3; exact (ho.apart _ _ _ _ b1 hat (by rw [g1]; rfl) hne _ h3).1 rfl rfl
      ·rw [<- d1]
       exact lies_V.1 (hh'.lies b _ hat)
     ·cases he'
    ·cases he'
   ·cases he'
  ·cases he'
 obtain ⟨sv, h1, h2, h3⟩ := key; exact ⟨sv, he, fun i hi => E.beq_eq _ _ (lAl.1 l5 i (mRa.2 hi)), h1, h2, h3⟩
end
section
variable {P : Program} {F G G0 : Mng} {O : Nat -> List Int -> Nat -> (Nat -> Prop) -> World -> Prop}
theorem methS_run {kp : Nat} {rs : List Rule} {m : MethS} {a : Fam} (hfam : a.ok 60 = true) (hO : ∀ (k : Nat) (x : Box) (q : Nat) (es : List E), a.bs[k]? = some x -> x.c = .obj q es -> ∀ vs b φ w, O q vs b φ w ↔ Ob q vs b φ w) (hF : ∀ f, f < 60 -> F f = G0 f) (hB : But2 m.m.name F G)
  {ns zs : List Int} {β : Bm} {ψ : Nat -> Nat -> Prop} {w : World} (hlen : ns.length = a.nv) (hfs : ∀ p ∈ a.fs, (p.1.ev (envT G0 ns) ≠ 0 ↔ p.2 = true)) (hl : TLay O (envT G0 ns) a.bs β ψ w)
  {call : Caller} (hcall : CallOk P (envOf F (ns ++ zs)) w (blksT a.bs β ψ) [] call) (has : shFits m.m.ps zs) (hR : ∀ r ∈ rs, RuleOk (envOf F (ns ++ zs)) r) (hg : m.good kp rs a (m.m.tree call a) = true) :
  ∃ o k es cs, (m.m.tree call a).pickB (envOf G (ns ++ zs)) = some o /\ m.parts o = some (k, es, cs) /\ E.evs (envOf F (ns ++ zs)) es = E.evs (envOf G (ns ++ zs)) es /\ E.evs (envOf F (ns ++ zs)) cs = E.evs (envOf G (ns ++ zs)) cs /\ famNs a o (envOf F (ns ++ zs)) = famNs a o (envOf G (ns ++ zs)) /\ (∀ i, i < kp -> famS a o i = .var i) /\
   Calls P m.m.f (.pointer (some ⟨(β 0).1, 0, none⟩) :: shVals m.m.ps zs).toArray w fun e w' => ∃ sv, e = .returned (packV (sv :: shVals m.m.rs (E.evs (envOf F (ns ++ zs)) es))) /\ shFits m.m.rs (E.evs (envOf F (ns ++ zs)) es) /\
    ∃ β' ψ', (β' 0).1 = (β 0).1 /\ (∀ p ∈ a.fs, (p.1.ev (envT G0 (famNs a o (envOf F (ns ++ zs)))) ≠ 0 ↔ p.2 = true)) /\ TLay O (envT G0 (famNs a o (envOf F (ns ++ zs)))) a.bs β' ψ' w' /\ (∀ i, blksT a.bs β' ψ' i -> blksT a.bs β ψ i \/ w.heap.size <= i) /\ Kept w (blksT a.bs β ψ) w' /\
     SlIs m k (E.evs (envOf F (ns ++ zs)) cs) (blksT a.bs β ψ) (blksT a.bs β' ψ') w w' sv := by
 have hparts := Fam.parts hfam; have hfam' := hfam; simp only [Fam.ok, bAnd, blt_iff, dEq] at hfam'; obtain ⟨⟨hpos, _⟩, hwf⟩ := hfam'; have hnear := envOf_low (ms := zs) hF hlen; have hlF := hl.near hnear hparts; have hh := hlF.heap hparts fun k x q es hk e vs b φ w => (hO k x q es hk e vs b φ w).1
 obtain ⟨o, p1, p2, p3⟩ := MethS.pick_good (m := m) (a := a) hB (ns ++ zs) hg; have p0 := p2; rw [MethS.leaf, famFit_eq] at p2; simp only [bAnd, beq_iff, dEq] at p2; obtain ⟨⟨⟨l1, l1'⟩, ⟨l0, l2⟩, ⟨⟨l3, l4⟩, l5⟩, l7⟩, l6⟩ := p2
 obtain ⟨k, es, cs, he, hes, hcs⟩ : ∃ k es cs, m.parts o = some (k, es, cs) /\ free2 m.m.name es = true /\ free2 m.m.name cs = true := by
  split at l3
  ·rename_i k es cs he
   simp only [bAnd] at l3; exact ⟨k, es, cs, he, l3⟩
  ·cases l3
 have e1 := evs_free2 hB (ns ++ zs) hes; have e3 := evs_free2 hB (ns ++ zs) hcs
 have e2 : famNs a o (envOf F (ns ++ zs)) = famNs a o (envOf G (ns ++ zs)) := by
  have := evs_free2 hB (ns ++ zs) l4; unfold famNs
  have ev : ∀ (ρ : Env) (l : List E), E.evs ρ l = l.map (E.ev ρ) := fun ρ l => by
   induction l with
   | nil => rfl
   | cons e l ih => simp [E.evs, ih]
  rw [ev, ev, List.map_map, List.map_map] at this; exact this
 have hdrop : (ns ++ zs).drop a.nv = zs := by rw [<- hlen]; exact List.drop_left ..
 have hasf : shFits m.m.ps ((ns ++ zs).drop a.nv) := by rw [hdrop]; exact has
 obtain ⟨v1, v2, v3⟩ := varShs_spec (F := F) (β := β) (n := a.bs.length) (hs := m.m.ps) (i := a.nv) hasf; rw [hdrop] at v1
 have hfacts0 : SX.FsOk (envOf F (ns ++ zs)) (a.fs ++ (boxRngs a.bs ++ varFacts m.m.ps a.nv)) :=
  SX.fsOk_app (facts_near hnear hwf hfs) (SX.fsOk_app (boxRngs_ok fun x hx => by
   obtain ⟨k, hk, rfl⟩ := List.getElem_of_mem hx; exact hlF.good k _ (lGe hk)) (varFacts_ok hasf))
 have hfacts : SX.FsOk (envOf F (ns ++ zs)) ((a.fs ++ (boxRngs a.bs ++ varFacts m.m.ps a.nv)).filter (m.m.sel a.nv)) := fun p hp => hfacts0 p (List.mem_filter.1 hp).1
 refine ⟨o, k, es, cs, p1, he, e1, e3, e2, fun i hi => E.beq_eq _ _ (lAl.1 l5 i (mRa.2 hi)), ?_⟩
 have hrun := (hcall m.m.f (.ptr 0 0 :: varShs m.m.ps a.nv) (Hp.ofL a.bs) ((a.fs ++ (boxRngs a.bs ++ varFacts m.m.ps a.nv)).filter (m.m.sel a.nv)) β w
  (fun x w' => ∃ sv, x = packV (sv :: shVals m.m.rs (E.evs (envOf F (ns ++ zs)) es)) /\ shFits m.m.rs (E.evs (envOf F (ns ++ zs)) es) /\
    ∃ β' ψ', (β' 0).1 = (β 0).1 /\ (∀ p ∈ a.fs, (p.1.ev (envT G0 (famNs a o (envOf F (ns ++ zs)))) ≠ 0 ↔ p.2 = true)) /\ TLay O (envT G0 (famNs a o (envOf F (ns ++ zs)))) a.bs β' ψ' w' /\ (∀ i, blksT a.bs β' ψ' i -> blksT a.bs β ψ i \/ w.heap.size <= i) /\ Kept w (blksT a.bs β ψ) w' /\
     SlIs m k (E.evs (envOf F (ns ++ zs)) cs) (blksT a.bs β ψ) (blksT a.bs β' ψ') w w' sv)
  hh hfacts ⟨hpos, v2⟩ (fun _ h => by cases h) (p3 _ ?_)).2
 ·have ev : SV.evs (envOf F (ns ++ zs)) β (.ptr 0 0 :: varShs m.m.ps a.nv) = .pointer (some ⟨(β 0).1, 0, none⟩) :: shVals m.m.ps zs := by
   simp only [SV.evs, SV.ev]; rw [v1]
  rw [ev] at hrun; exact hrun.mono fun e w' ⟨v, he, sv, hv, hx⟩ => ⟨sv, by rw [he, hv], hx⟩
 ·intro β' w' hx hle hst hh' hf' hv
  obtain ⟨k2, es2, cs2, sv, q1, q2, q3, q4, β2, ψ', q5, q6, q7, q8, q9⟩ := leafS_end (G0 := G0) hfam hO (ρ := envOf F (ns ++ zs)) hF (facts_near hnear hwf hfs) hh' hf' hv hR p0; rw [he] at q1; simp only [sEq, Prod.mk.injEq] at q1; obtain ⟨rfl, rfl, rfl⟩ := q1; exact ⟨sv, q3, q4, β2, ψ', by rw [q5, hx 0 hpos], q6, q7, q8, hh'.kept, q9⟩
end
section
variable {ρ : Env} {w0 w w' : World} {M : Nat -> Prop} {β : Bm} {hp : Hp} {φ : Nat -> Nat -> Prop} {k q : Nat} {es es' : List E}
theorem Heap.turnNew (h : Heap ρ w0 M β hp w) (ho : ObjsOk ρ w0 M β hp φ w) (hk : hp.at k = some ⟨true, .obj q es⟩) {φ' : Nat -> Prop} (h1 : Ob q (E.evs ρ es') (β k).1 φ' w') (h2 : ∀ i, φ' i -> φ k i \/ w.heap.size <= i) (h3 : Kept w (φ k) w')
  {bv : Nat × Nat} {c : Bx} (hb : φ k bv.1 \/ w.heap.size <= bv.1) (hn : ¬ φ' bv.1) (hok : c.ok ρ (hp.n + 1)) (hl : c.lies ρ (upd β hp.n bv) bv w') (ha : c.isArr = false := by rfl) (hao : c.isObj = false := by rfl) :
  Heap ρ w0 M (upd β hp.n bv) ((hp.put k ⟨true, .obj q es'⟩).push ⟨true, c⟩) w' := by
 have hlt := Hp.at_lt hk; have ht := Heap.turn_ h ho hk h1 h2 h3; have hx := upd_ext β hp.n bv
 have cases_ : ∀ (j : Nat) (x : Box), (hp.put k ⟨true, .obj q es'⟩).at j = some x -> (j ≠ k /\ hp.at j = some x) \/ (j = k /\ x = ⟨true, .obj q es'⟩) := fun j x hj => by
  by_cases he : j = k
  ·subst he; rw [Hp.at_put_same _ hlt] at hj; exact .inr ⟨rfl, (sinj hj).symm⟩
  ·rw [Hp.at_put_ne _ he] at hj; exact .inl ⟨he, hj⟩
 have caseP : ∀ (j : Nat) (x : Box), ((hp.put k ⟨true, .obj q es'⟩).push ⟨true, c⟩).at j = some x -> (j < hp.n /\ upd β hp.n bv j = β j /\ ((j ≠ k /\ hp.at j = some x) \/ (j = k /\ x = ⟨true, .obj q es'⟩))) \/ (j = hp.n /\ x = ⟨true, c⟩) := fun j x hj => by
  have hlt' := Hp.at_lt hj; simp only [Hp.n_push, Hp.n_put] at hlt'
  by_cases hj' : j < hp.n
  ·rw [Hp.at_push_lt _ (by simpa using hj')] at hj
   exact .inl ⟨hj', hx j hj', cases_ j x hj⟩
  ·obtain rfl : j = hp.n := by omega
   have : ((hp.put k ⟨true, .obj q es'⟩).push ⟨true, c⟩).at hp.n = some ⟨true, c⟩ := Hp.at_push_n (hp.put k ⟨true, .obj q es'⟩) _; rw [this] at hj; exact .inr ⟨rfl, (sinj hj).symm⟩
 have hlive : ∀ (j : Nat) (x : Box), j ≠ k -> hp.at j = some x -> x.c.live = true -> (β j).1 ≠ bv.1 := fun j x hjk hj hv e => by
  rcases hb with hb | hb
  ·exact (ho.apart k j _ x hk hj rfl (Ne.symm hjk) _ hb).1 hv e
  ·have := Bx.lies_lt (h.lies j x hj) hv; omega
 have hobj : ∀ (j : Nat) (x : Box), j ≠ k -> hp.at j = some x -> x.c.isObj = true -> ¬ φ j bv.1 := fun j x hjk hj hv e => by
  rcases hb with hb | hb
  ·exact (ho.apart j k x _ hj hk hv hjk _ e).2 rfl hb
  ·have := ho.lt hj hv e; omega
 refine ht.push (fun j b' hj hv e => ?_) ?_ (by simpa using hok) hl ⟨fun j => if j = hp.n then fun _ => False else if j = k then φ' else φ j, ?_, ?_, ?_⟩ ha
 ·rcases cases_ j b' hj with ⟨hne, hj'⟩ | ⟨rfl, rfl⟩
  ·exact hlive j b' hne hj' hv e
  ·cases hv
 ·rcases hb with hb | hb
  ·exact ho.own k _ hk rfl _ hb
  ·exact .inr (Nat.le_trans h.kept.size hb)
 ·intro j x q' es2 hj e
  rcases caseP j x hj with ⟨hjn, hu, h4⟩ | ⟨rfl, rfl⟩
  ·simp only [if_neg (show j ≠ hp.n by omega)]
   rw [show upd β (hp.put k ⟨true, .obj q es'⟩).n bv j = β j from hu]; rcases h4 with ⟨hne, hj'⟩ | ⟨rfl, rfl⟩
   ·simp only [if_neg hne]
    refine Ob_keep (ho.has j x q' es2 hj' e) fun i hi => h3.block i (ho.lt hj' (by rw [e]; rfl) hi) fun hi' => ?_
    exact (ho.apart j k x _ hj' hk (by rw [e]; rfl) hne i hi).2 rfl hi'
   ·cases e
    simp only [if_true]; exact h1
  ·simp only at e
   rw [e] at hao; cases hao
 ·intro j x hj hb' i hi
  rcases caseP j x hj with ⟨hjn, hu, h4⟩ | ⟨rfl, rfl⟩
  ·simp only [if_neg (show j ≠ hp.n by omega)] at hi
   rcases h4 with ⟨hne, hj'⟩ | ⟨rfl, rfl⟩
   ·simp only [if_neg hne] at hi
    exact ho.own j x hj' hb' i hi
   ·simp only [if_true] at hi
    rcases h2 i hi with h4 | h4
    ·exact ho.own _ _ hk rfl i h4
    ·have := h.kept.size; exact .inr (by omega)
  ·simp only at hb'
   rw [hao] at hb'; cases hb'
 ·intro i j x y hi hj hbx hij a hax
  rcases caseP i x hi with ⟨hin, hui, h4⟩ | ⟨rfl, rfl⟩
  ·simp only [if_neg (show i ≠ hp.n by omega)] at hax
   rcases caseP j y hj with ⟨hjn, huj, h5⟩ | ⟨rfl, rfl⟩
   ·rw [show upd β (hp.put k ⟨true, .obj q es'⟩).n bv j = β j from huj]
    simp only [if_neg (show j ≠ hp.n by omega)]
    rcases h4 with ⟨hne, hi'⟩ | ⟨rfl, rfl⟩
    ·simp only [if_neg hne] at hax
     rcases h5 with ⟨hne', hj'⟩ | ⟨rfl, rfl⟩
     ·simp only [if_neg hne']
      exact ho.apart i j x y hi' hj' hbx hij a hax
     ·refine ⟨fun hv => (by cases hv), fun _ => ?_⟩
      simp only [if_true]; intro hc; rcases h2 a hc with h4 | h4
      ·exact (ho.apart i _ x _ hi' hk hbx hij a hax).2 rfl h4
      ·have := ho.lt hi' hbx hax; omega
    ·simp only [if_true] at hax
     rcases h5 with ⟨hne', hj'⟩ | ⟨rfl, rfl⟩
     ·simp only [if_neg hne']
      rcases h2 a hax with h4 | h4
      ·exact ho.apart _ j _ y hk hj' rfl hij a h4
      ·refine ⟨fun hv e => ?_, fun hv hc => ?_⟩
       ·have := Bx.lies_lt (h.lies j y hj') hv; omega
       ·have := ho.lt hj' hv hc; omega
     ·exact absurd rfl hij
   ·rw [show upd β (hp.put k ⟨true, .obj q es'⟩).n bv hp.n = bv from upd_same ..]
    refine ⟨fun _ e => ?_, fun hv => by simp only at hv; rw [hao] at hv; cases hv⟩
    rcases h4 with ⟨hne, hi'⟩ | ⟨rfl, rfl⟩
    ·simp only [if_neg hne] at hax
     exact hobj i x hne hi' hbx (e ▸ hax)
    ·simp only [if_true] at hax
     exact hn (e ▸ hax)
  ·simp only at hbx
   rw [hao] at hbx; cases hbx
end
def cellNs (F : Mng) (m : MethS) (l : List Int) (k : Nat) : List Int := (List.range k).flatMap fun (i : Nat) => fnVals (F (m.m.name + 1)) (l ++ [(i : Int)]) m.ks.length 0
def MethSOk (P : Program) (I : World -> Prop) (F : Mng) (q kp : Nat) (m : MethS) : Prop := ∀ (X : Int) (xs : List Int) (b : Nat) (φ : Nat -> Prop) (w : World), shFits m.m.ps xs -> Ob q [X] b φ w -> (∀ w', Kept w φ w' -> I w') ->
 ∃ k : Nat, F m.m.name 1 (X :: xs) = (k : Int) /\ k <= 8 /\ shFits m.m.rs (fnVals (F m.m.name) (X :: xs) (shSize m.m.rs) 2) /\ Keeps kp X (F m.m.name 0 (X :: xs)) /\
 Calls P m.m.f (ptrV b :: shVals m.m.ps xs).toArray w fun e w' => ∃ sv φ', e = .returned (packV (sv :: shVals m.m.rs (fnVals (F m.m.name) (X :: xs) (shSize m.m.rs) 2))) /\
  Ob q [F m.m.name 0 (X :: xs)] b φ' w' /\ (∀ i, φ' i -> φ i \/ w.heap.size <= i) /\ Kept w φ w' /\ SlIs m k (cellNs F m (X :: xs) k) φ φ' w w' sv
theorem MethSOk.congr {P : Program} {I : World -> Prop} {F G : Mng} {q kp : Nat} {m : MethS} (he : F m.m.name = G m.m.name) (he1 : F (m.m.name + 1) = G (m.m.name + 1)) (h : MethSOk P I G q kp m) : MethSOk P I F q kp m := fun X xs b φ w => by
 have hc : ∀ l k, cellNs F m l k = cellNs G m l k := fun l k => by unfold cellNs; rw [he1]
 simp only [he, hc]; exact h X xs b φ w
def methNS (K : Kind) (G : Mng) (call : Caller) (m : MethS) : Nat -> List Int -> Int := fun j ns => match ns with
 | X :: xs => match decL X with
  | t :: ms => match K.fam t.toNat with
   | some a => methVS G a m t.toNat (m.m.tree call a) j (ms ++ xs)
   | none => 0
  | [] => 0
 | [] => 0
def methNC (K : Kind) (G : Mng) (call : Caller) (m : MethS) : Nat -> List Int -> Int := fun f ns => match ns with
 | X :: xs => match decL X with
  | t :: ms => match K.fam t.toNat with
   | some a => methCS G m (m.m.tree call a) ((xs.getLastD 0).toNat * m.ks.length + f) (ms ++ xs.dropLast)
   | none => 0
  | [] => 0
 | [] => 0
theorem takes_len : ∀ {ls : List Lk} {ss : List SV} {es : List E}, takes ls ss = some es -> es.length = ls.length
 | [], [], es, h => by obtain rfl := sinj h; rfl
 | [], _ :: _, es, h => by cases h
 | _ :: _, [], es, h => by cases h
 | l :: ls, s :: ss, es, h => by
  unfold takes at h; split at h
  ·rename_i e es' h1 h2
   obtain rfl := sinj h; rw [List.length_cons, List.length_cons, takes_len h2]
  ·cases h
theorem repK_len (k : Nat) (ks : List Lk) : (repK k ks).length = k * ks.length := by
 induction k with
 | zero => simp [repK]
 | succ k ih => simp only [repK, List.replicate_succ, List.flatten_cons, List.length_append] at ih ⊢; rw [ih, Nat.add_mul]; omega
theorem flat_len {α β : Type} {f : α -> List β} {z : Nat} (hz : ∀ x, (f x).length = z) : ∀ l : List α, (l.flatMap f).length = l.length * z
 | [] => by simp
 | x :: l => by rw [List.flatMap_cons, List.length_append, hz, flat_len hz l, List.length_cons, Nat.add_mul]; omega
theorem flat_get' {α β : Type} {f : α -> List β} {z : Nat} (hz : ∀ x, (f x).length = z) : ∀ (l : List α) (i k : Nat), k < z -> (l.flatMap f)[i * z + k]? = l[i]?.bind fun x => (f x)[k]?
 | [], i, k, _ => by simp
 | x :: l, 0, k, hk => by
  rw [List.flatMap_cons, lAp (by rw [hz]; omega)]
  simp
 | x :: l, i + 1, k, hk => by
  rw [List.flatMap_cons, List.getElem?_append_right (by rw [hz, Nat.add_mul]; omega), hz, show (i + 1) * z + k - z = i * z + k by rw [Nat.add_mul]; omega, flat_get' hz l i k hk]
  simp
theorem parts_len {m : MethS} {o : Out} {k : Nat} {es cs : List E} (hparts : m.parts o = some (k, es, cs)) : k <= 8 /\ es.length = shSize m.m.rs /\ cs.length = k * m.ks.length := by
 unfold MethS.parts at hparts; split at hparts
 ·obtain ⟨es0, h1, h2⟩ := Option.map_eq_some_iff.1 hparts
  simp only [Prod.mk.injEq] at h2; obtain ⟨rfl, rfl, rfl⟩ := h2; exact ⟨by omega, shTakes_len h1, by simp⟩
 ·split at hparts
  ·split at hparts
   ·rename_i hc
    split at hparts
    ·rename_i es0 cs0 h1 h2
     simp only [sEq, Prod.mk.injEq] at hparts; obtain ⟨rfl, rfl, rfl⟩ := hparts; refine ⟨hc.2.2.2.2, shTakes_len h1, ?_⟩; rw [takes_len h2, repK_len]
    ·cases hparts
   ·cases hparts
  ·cases hparts
 ·cases hparts
section
variable {P : Program} {I : World -> Prop} {F G : Mng} {K : Kind} {m : MethS} {call : Caller}
theorem methNS_at {t : Nat} {ns xs : List Int} {a : Fam} (hfam : K.fam t = some a) (j : Nat) : methNS K G call m j (codL ((t : Int) :: ns) :: xs) = methVS G a m t (m.m.tree call a) j (ns ++ xs) := by
 unfold methNS; simp only [decL_cod, Int.toNat_natCast, hfam]
theorem methNC_at {t : Nat} {ns xs : List Int} {a : Fam} (hfam : K.fam t = some a) (f i : Nat) : methNC K G call m f (codL ((t : Int) :: ns) :: (xs ++ [(i : Int)])) = methCS G m (m.m.tree call a) (i * m.ks.length + f) (ns ++ xs) := by
 unfold methNC; simp only [decL_cod, Int.toNat_natCast, hfam, List.dropLast_concat, List.getLastD_concat]
theorem namesS_at {m : MethS} {t : Nat} {ns xs : List Int} {a : Fam} {o : Out} {k : Nat} {es cs : List E} (hF : F m.m.name = methNS K G call m) (hF1 : F (m.m.name + 1) = methNC K G call m) (hfam : K.fam t = some a) (p1 : (m.m.tree call a).pickB (envOf G (ns ++ xs)) = some o) (he : m.parts o = some (k, es, cs)) :
  F m.m.name 1 (codL ((t : Int) :: ns) :: xs) = (k : Int) /\ fnVals (F m.m.name) (codL ((t : Int) :: ns) :: xs) (shSize m.m.rs) 2 = E.evs (envOf G (ns ++ xs)) es /\ cellNs F m (codL ((t : Int) :: ns) :: xs) k = E.evs (envOf G (ns ++ xs)) cs /\ F m.m.name 0 (codL ((t : Int) :: ns) :: xs) = codL ((t : Int) :: famNs a o (envOf G (ns ++ xs))) := by
 obtain ⟨hk, hle, hlc⟩ := parts_len he; refine ⟨?_, ?_, ?_, ?_⟩
 ·rw [hF, methNS_at hfam]
  unfold methVS; simp only [p1, he, if_neg (show (1 : Nat) ≠ 0 by omega), if_true]
 ·rw [<- hle, <- evs_len (ρ := envOf G (ns ++ xs)) es]
  refine fnVals_getD _ _ _ 2 fun i => ?_
  rw [hF, methNS_at hfam]; unfold methVS; simp only [p1, he, if_neg (show 2 + i ≠ 0 by omega), if_neg (show 2 + i ≠ 1 by omega), Nat.add_sub_cancel_left]
 ·have hz : ∀ i : Nat, (fnVals (F (m.m.name + 1)) ((codL ((t : Int) :: ns) :: xs) ++ [(i : Int)]) m.ks.length 0).length = m.ks.length := fun i => by simp [fnVals]
  have hl1 : (cellNs F m (codL ((t : Int) :: ns) :: xs) k).length = k * m.ks.length := by
   unfold cellNs; rw [flat_len hz, List.length_range]
  refine List.ext_getElem? fun c => ?_
  by_cases hc : c < k * m.ks.length
  ·have hzp : 0 < m.ks.length := by
    rcases Nat.eq_zero_or_pos m.ks.length with h | h
    ·rw [h, Nat.mul_zero] at hc; omega
    ·exact h
   have hi : c / m.ks.length < k := Nat.div_lt_of_lt_mul (by rw [Nat.mul_comm]; exact hc)
   have hf : c % m.ks.length < m.ks.length := Nat.mod_lt _ hzp; have hcc : c = c / m.ks.length * m.ks.length + c % m.ks.length := by rw [Nat.mul_comm]; exact (Nat.div_add_mod _ _).symm
   have hgen : (E.evs (envOf G (ns ++ xs)) cs)[c]? = some ((E.evs (envOf G (ns ++ xs)) cs).getD c 0) := by
    rw [gDe, lGe (by rw [evs_len, hlc]; exact hc)]; rfl
   rw [hgen]
   conv => lhs; rw [hcc]
   unfold cellNs; rw [flat_get' hz _ _ _ hf, lRa hi]; show (fnVals (F (m.m.name + 1)) ((codL ((t : Int) :: ns) :: xs) ++ [((c / m.ks.length : Nat) : Int)]) m.ks.length 0)[c % m.ks.length]? = _; unfold fnVals; rw [lMp, List.getElem?_range' hf]; show some (F (m.m.name + 1) (0 + 1 * (c % m.ks.length)) (codL ((t : Int) :: ns) :: (xs ++ [((c / m.ks.length : Nat) : Int)]))) = _
   rw [hF1, methNC_at hfam, Nat.zero_add, Nat.one_mul, <- hcc]; unfold methCS; simp only [p1, he]
  ·rw [lNo (by omega), lNo (by rw [evs_len, hlc]; omega)]
 ·rw [hF, methNS_at hfam]
  unfold methVS; simp only [p1, if_true]
theorem methS_ok {rs : Fam -> List Rule} (hK : KindOk K) (hB : But2 m.m.name F G) (hlow : Low F) (hF : F m.m.name = methNS K G call m) (hF1 : F (m.m.name + 1) = methNC K G call m) (hcall : ∀ (ns : List Int) (w : World) (φ : Nat -> Prop), (∀ w', Kept w φ w' -> I w') -> CallOk P (envOf F ns) w φ [] call)
  (hR : ∀ (a : Fam) (ns : List Int), ∀ r ∈ rs a, RuleOk (envOf F ns) r) (hg : ∀ t a, K.fam t = some a -> m.good K.kp (rs a) a (m.m.tree call a) = true) : MethSOk P I F K.q K.kp m := fun X xs b φ w hxs hob hI => by
 obtain ⟨t, ns, a, β, ψ, e, hfam, hlen, rfl, hfs, hl, hφ⟩ := (hK.is _ _ _ _).1 hob; obtain rfl : X = codL ((t : Int) :: ns) := by simpa using e
 obtain rfl : φ = blksT a.bs β ψ := funext fun i => propext (hφ i)
 obtain ⟨o, k, es, cs, p1, he, e1, e3, e2, hkp, hrun⟩ := methS_run (hK.ok t a hfam) (hK.nest t a hfam) hlow hB hlen hfs hl (hcall (ns ++ xs) w _ hI) hxs (hR a _) (hg t a hfam); obtain ⟨hcount, n2, n3, n4⟩ := namesS_at hF hF1 hfam p1 he; have hk := (parts_len he).1; have hval := n2.trans e1.symm; have hcell := n3.trans e3.symm; have hobj : F m.m.name 0 (codL ((t : Int) :: ns) :: xs) = codL ((t : Int) :: famNs a o (envOf F (ns ++ xs))) := by rw [n4, e2]
 refine ⟨k, hcount, hk, ?_⟩; rw [hval, hobj, hcell]; refine ⟨calls_some hrun fun _ _ ⟨_, h⟩ => h.2.1, ⟨t, ns, _, rfl, rfl, fun i hi => famNs_kept hlen (hkp i hi)⟩, hrun.mono fun e w' ⟨sv, h1, h2, β', ψ', k1, k2, k3, k4, k5, k6⟩ => ⟨sv, blksT a.bs β' ψ', h1, (hK.is _ _ _ _).2 ⟨t, famNs a o (envOf F (ns ++ xs)), a, β', ψ', rfl, hfam, by simp [famNs], k1, k2, k3, fun i => Iff.rfl⟩, k4, k5, k6⟩⟩
end
def resS (q : Nat) (m : MethS) (hp : Hp) (k : Nat) (L : List E) (j : Nat) (fs : Fs) : Out :=
 match j with
 | 0 => ⟨packS (.raw (.slice none 0 0) :: shApps m.m.name L m.m.rs 2), hp.put k ⟨true, .obj q [.app m.m.name 0 L]⟩, fs⟩
 | j + 1 => ⟨packS (.slice hp.n 0 (j + 1) (if m.tl = 0 then some (j + 1) else none) :: shApps m.m.name L m.m.rs 2), (hp.put k ⟨true, .obj q [.app m.m.name 0 L]⟩).push ⟨true, .cells ((List.range (j + 1)).flatMap fun i => apps (m.m.name + 1) (L ++ [litN i]) m.ks 0) m.ty m.tl⟩, fs⟩
def lenT (q : Nat) (m : MethS) (hp : Hp) (k : Nat) (L : List E) : Nat -> Nat -> Fs -> T Out
 | 0, j, fs => .ok (resS q m hp k L j (learn fs (eq0 (.app m.m.name 1 L) (litN j)) true))
 | r + 1, j, fs => SX.split fs (eq0 (.app m.m.name 1 L) (litN j)) (fun fs => .ok (resS q m hp k L j fs)) (fun fs => lenT q m hp k L r (j + 1) fs)
def spMethS (q : Nat) (m : MethS) : SpcT := fun f args hp fs => if f = m.m.f then (match args with
 | .ptr k 0 :: rest => (match objOf q hp k, shTakes m.m.ps rest with
  | some x, some es => some (lenT q m hp k (canon fs x :: canons fs es) 8 0 fs)
  | _, _ => none)
 | _ => none) else none
theorem lenT_run {ρ : Env} {q : Nat} {m : MethS} {hp : Hp} {k : Nat} {L : List E} {n : Nat} {Q : Out -> Prop} (hlen : (E.app m.m.name 1 L).ev ρ = (n : Int)) : ∀ (r j : Nat) (fs : Fs), SX.FsOk ρ fs -> j <= n -> n <= j + r -> (lenT q m hp k L r j fs).holds ρ Q -> ∃ fs', SX.FsOk ρ fs' /\ Q (resS q m hp k L n fs')
 | 0, j, fs, hf, h1, h2, h => by
  obtain rfl : j = n := by omega
  exact ⟨_, learn_ok hf (by rw [eq0_ev, hlen]; exact ⟨fun _ => rfl, fun _ => rfl⟩), h⟩
 | r + 1, j, fs, hf, h1, h2, h => by
  obtain ⟨fs', hf', h⟩ := split_holds hf h; rcases h with ⟨c, h⟩ | ⟨c, h⟩
  ·rw [eq0_ev, hlen] at c
   have c : (n : Int) = (j : Int) := c; obtain rfl : j = n := by omega
   exact ⟨fs', hf', h⟩
  ·have c' : j ≠ n := fun e => by
    subst e; exact (eq0_ev (ρ := ρ) (.app m.m.name 1 L) (litN j)).2 hlen c
   exact lenT_run hlen r (j + 1) fs' hf' (by omega) (by omega) h
theorem vals_app {ls ms : List Lk} {ns os : List Int} (h : ns.length = ls.length) : vals (ls ++ ms) (ns ++ os) = vals ls ns ++ vals ms os := by
 induction ls generalizing ns with
 | nil =>
  obtain rfl := List.length_eq_zero_iff.1 h; rfl
 | cons l ls ih =>
  cases ns with
  | nil => cases h
  | cons n ns =>
   show l.val n :: vals (ls ++ ms) (ns ++ os) = l.val n :: (vals ls ns ++ vals ms os); rw [ih (by simpa using h)]
section
variable {ρ : Env} {β : Bm}
theorem cells_S {n : Nat} (f : Nat) (L : List E) (ks : List Lk) : ∀ (js : List Nat), SX.fits ((List.replicate js.length ks).flatten) (js.flatMap fun (i : Nat) => fnVals (ρ.fn f) (E.evs ρ L ++ [(i : Int)]) ks.length 0) ->
  SV.evs ρ β (js.flatMap fun i => apps f (L ++ [litN i]) ks 0) = vals ((List.replicate js.length ks).flatten) (js.flatMap fun (i : Nat) => fnVals (ρ.fn f) (E.evs ρ L ++ [(i : Int)]) ks.length 0) /\ SV.oks ρ n (js.flatMap fun i => apps f (L ++ [litN i]) ks 0)
 | [], _ => ⟨rfl, trivial⟩
 | i :: js, h => by
  have hlen : (fnVals (ρ.fn f) (E.evs ρ L ++ [(i : Int)]) ks.length 0).length = ks.length := by simp [fnVals]
  simp only [List.flatMap_cons, List.length_cons, List.replicate_succ, List.flatten_cons] at h ⊢; obtain ⟨h1, h2⟩ := (fits_app _ _ _).1 h; rw [List.drop_append, hlen, List.drop_of_length_le (by omega), List.nil_append, Nat.sub_self, List.drop_zero] at h2
  have h1' : SX.fits ks (fnVals (ρ.fn f) (E.evs ρ L ++ [(i : Int)]) ks.length 0) := by
   rw [fits_getD] at h1 ⊢; intro k l hk; have := h1 k l hk; have hkl : k < ks.length := (lSo.1 hk).1; rwa [gDe, lAp (by omega), <- gDe] at this
  have eL : E.evs ρ (L ++ [litN i]) = E.evs ρ L ++ [(i : Int)] := by rw [evs_app]; rfl
  obtain ⟨a1, a2⟩ := apps_spec (ρ := ρ) (β := β) (n := n) f (L ++ [litN i]) ks 0 ks.length (Nat.le_refl _) (by rw [eL]; exact h1')
  obtain ⟨b1, b2⟩ := cells_S f L ks js h2; rw [eL] at a1; refine ⟨by rw [SX.evs_append, a1, b1, vals_app hlen], SV.oks_mem.2 fun s hs => (List.mem_append.1 hs).elim (SV.oks_mem.1 a2 s) (SV.oks_mem.1 b2 s)⟩
end
section
variable {P : Program} {I : World -> Prop}
theorem spMethS_ok {ρ : Env} {w0 : World} {M : Nat -> Prop} {gl : Gl} {q kp : Nat} {m : MethS} (hm : MethSOk P I ρ.fn q kp m) (hI : ∀ w', Kept w0 M w' -> I w') : SpecOkT P ρ w0 M gl (spMethS q m) := fun f args hp fs t ht β w K hh hfs ha hg hK => by
 unfold spMethS at ht; split at ht
 ·rename_i hfe
  subst hfe; split at ht
  ·rename_i k rest
   split at ht
   ·rename_i x es hx hes
    obtain rfl := sinj ht; obtain ⟨φ, ho⟩ := hh.objs; have hob := ho.has k _ q [x] (objOf_spec hx) rfl; obtain ⟨a1, a2⟩ := shTakes_spec (β := β) ha.2 hes; generalize hL : canon fs x :: canons fs es = L at *
    have hA : E.evs ρ L = x.ev ρ :: E.evs ρ es := by
     rw [<- hL]; show (canon fs x).ev ρ :: E.evs ρ (canons fs es) = _; rw [canon_ev hfs, canons_ev hfs]
    obtain ⟨n, c1, c2, f1, _, f2⟩ := hm (x.ev ρ) (E.evs ρ es) (β k).1 (φ k) w a2 hob fun w' hk => hI w' (Kept.nest hh.kept (fun i hi => ho.own k _ (objOf_spec hx) rfl i hi) hk)
    rw [<- hA] at c1 f1
    have hargs : SV.evs ρ β (.ptr k 0 :: rest) = ptrV (β k).1 :: shVals m.m.ps (E.evs ρ es) := by
     simp only [SV.evs, SV.ev, a1]; rfl
    rw [hargs]; obtain ⟨fs', hf', hK⟩ := lenT_run (n := n) c1 8 0 fs hfs (Nat.zero_le _) (by omega) hK
    refine f2.mono fun e w' ⟨sv, φ', he, h1, h2, h3, h4⟩ => ?_
    rw [<- hA] at he h1 h4; have h1' : Ob q (E.evs ρ [.app m.m.name 0 L]) (β k).1 φ' w' := h1; have hkn := Hp.at_lt (objOf_spec hx); rcases h4 with ⟨rfl, rfl⟩ | ⟨k1, k2, b, c, hsv, hb, hnb, hfit, hln, hli⟩
    ·obtain ⟨b1, b2⟩ := shApps_spec (β := β) (n := hp.n) m.m.name L m.m.rs 2 _ (Nat.le_refl _) f1
     obtain ⟨d1, d2⟩ := packS_spec (ρ := ρ) (β := β) (n := hp.n) (.raw (.slice none 0 0) :: shApps m.m.name L m.m.rs 2) ⟨trivial, b2⟩; refine ⟨_, he, ?_⟩; have := hK β w' (Ext.refl _ _) (Nat.le_refl _) (stay_put (objOf_spec hx)) (Heap.turn_ hh ho (objOf_spec hx) h1' h2 h3) hf' d2; rw [show (resS q m hp k L 0 fs').v = packS (.raw (.slice none 0 0) :: shApps m.m.name L m.m.rs 2) from rfl, d1] at this
     simp only [SV.evs, b1] at this; exact this
    ·obtain ⟨j, rfl⟩ : ∃ j, n = j + 1 := ⟨n - 1, by omega⟩
     have hcn : ∀ i, fnVals (ρ.fn (m.m.name + 1)) (E.evs ρ L ++ [(i : Int)]) m.ks.length 0 = fnVals (ρ.fn (m.m.name + 1)) (E.evs ρ L ++ [(i : Int)]) m.ks.length 0 := fun _ => rfl
     obtain ⟨g1, g2⟩ := cells_S (ρ := ρ) (β := upd β hp.n (b, c)) (n := hp.n + 1) (m.m.name + 1) L m.ks (List.range (j + 1)) (by rw [List.length_range]; exact hfit)
     rw [List.length_range] at g1
     have hheap := Heap.turnNew hh ho (objOf_spec hx) h1' h2 h3 (bv := (b, c)) (c := .cells ((List.range (j + 1)).flatMap fun i => apps (m.m.name + 1) (L ++ [litN i]) m.ks 0) m.ty m.tl) hb hnb g2 (by
      rw [lies_V, g1]; exact hli)
     obtain ⟨b1, b2⟩ := shApps_spec (β := upd β hp.n (b, c)) (n := hp.n + 1) m.m.name L m.m.rs 2 _ (Nat.le_refl _) f1; obtain ⟨d1, d2⟩ := packS_spec (ρ := ρ) (β := upd β hp.n (b, c)) (n := hp.n + 1) (.slice hp.n 0 (j + 1) (if m.tl = 0 then some (j + 1) else none) :: shApps m.m.name L m.m.rs 2) ⟨show hp.n < hp.n + 1 by omega, b2⟩
     refine ⟨_, he, ?_⟩; have := hK (upd β hp.n (b, c)) w' (upd_ext _ _ _) (by show hp.n <= _; simp [resS]) ((stay_put (objOf_spec hx)).trans (Stay.push _ _)) hheap hf' (by simpa [resS] using d2)
     rw [show (resS q m hp k L (j + 1) fs').v = packS (.slice hp.n 0 (j + 1) (if m.tl = 0 then some (j + 1) else none) :: shApps m.m.name L m.m.rs 2) from rfl, d1] at this
     simp only [SV.evs, b1, SV.ev, upd_same] at this; rw [hsv]; have hcap : (if m.tl = 0 then some (j + 1) else none : Option Nat).getD c = if m.tl = 0 then j + 1 else c := by split <;> rfl
     rw [hcap] at this; exact this
   ·cases ht
  ·cases ht
 ·cases ht
end
section
variable {P : Program} {I : World -> Prop} {F G : Mng} {K K' : Kind} {call call' : Caller}
theorem leaf_len {rs : List Sh} {o : Out} {es : List E} (h : leafE rs o = some es) : es.length = shSize rs := by
 unfold leafE at h; split at h
 ·exact shTakes_len h
 ·cases h
theorem names_at {m : Meth} {t : Nat} {ns xs : List Int} {a : Fam} {o : Out} {es : List E} (hF : F m.name = methN K G call m) (hfam : K.fam t = some a) (p1 : (m.tree call a).pickB (envOf G (ns ++ xs)) = some o) (he : leafE m.rs o = some es) :
  fnVals (F m.name) (codL ((t : Int) :: ns) :: xs) (shSize m.rs) 1 = E.evs (envOf G (ns ++ xs)) es /\ F m.name 0 (codL ((t : Int) :: ns) :: xs) = codL ((t : Int) :: famNs a o (envOf G (ns ++ xs))) := by
 refine ⟨?_, ?_⟩
 ·rw [<- leaf_len he, <- evs_len (ρ := envOf G (ns ++ xs)) es]
  refine fnVals_getD _ _ _ 1 fun i => ?_
  rw [hF, methN_at hfam]; unfold methV; simp only [p1, he, if_neg (show 1 + i ≠ 0 by omega), Nat.add_sub_cancel_left]
 ·rw [hF, methN_at hfam]
  unfold methV; simp only [p1, if_true]
theorem twin_ok {m m' : Meth} {rs : Fam -> List Rule} (hK' : KindOk K') (hn : m'.name = m.name) (hps : m'.ps = m.ps) (hrs : m'.rs = m.rs) (hB : But m.name F G) (hlow : Low F) (hF : F m.name = methN K G call m) (hcall : ∀ (ns : List Int) (w : World) (φ : Nat -> Prop), (∀ w', Kept w φ w' -> I w') -> CallOk P (envOf F ns) w φ [] call')
  (hR : ∀ (a : Fam) (ns : List Int), ∀ r ∈ rs a, RuleOk (envOf F ns) r)
  (hg : ∀ t a', K'.fam t = some a' -> m'.good K'.kp (rs a') a' (m'.tree call' a') = true /\ ∃ a kp rs0, K.fam t = some a /\ a.nv = a'.nv /\ m.good kp rs0 a (m.tree call a) = true /\ sameB a a' (leafE m.rs) (leafE m.rs) [] (m'.tree call' a') (m.tree call a) = true) : MethOk P I F K'.q K'.kp m' := fun X xs b φ w hxs hob hI => by
 obtain ⟨t, ns, a', β, ψ, e, hfam', hlen, rfl, hfs, hl, hφ⟩ := (hK'.is _ _ _ _).1 hob; obtain rfl : X = codL ((t : Int) :: ns) := by simpa using e
 obtain rfl : φ = blksT a'.bs β ψ := funext fun i => propext (hφ i)
 obtain ⟨hg', a, kp, rs0, hfam, hnv, hg0, hsame⟩ := hg t a' hfam'; obtain ⟨o', es', p1', he', e1', e2', hkp', hrun⟩ := meth_run (G := G) (hK'.ok t a' hfam') (hK'.nest t a' hfam') hlow (by rw [hn]; exact hB) hlen hfs hl (hcall (ns ++ xs) w _ hI) hxs (hR a' _) hg'
 obtain ⟨o, p1, _, _⟩ := Meth.pick_good hB (ns ++ xs) hg0; obtain ⟨es, es2, h1, h2, h3, h4⟩ := same_at (fun _ h => by cases h) hsame p1 p1'
 rw [hrs] at he'; obtain rfl : es' = es2 := sinj (he'.symm.trans h2); obtain ⟨n1, n2⟩ := names_at hF hfam p1 h1
 have hobj : famNs a' o' (envOf F (ns ++ xs)) = famNs a o (envOf G (ns ++ xs)) := by
  rw [e2']; unfold famNs; rw [<- hnv]; exact h4
 have hval : fnVals (F m.name) (codL ((t : Int) :: ns) :: xs) (shSize m.rs) 1 = E.evs (envOf F (ns ++ xs)) es' := by rw [n1, e1', h3]
 rw [hn, hrs, hval, n2, <- hobj]; rw [hrs] at hrun; refine ⟨calls_some hrun fun _ _ h => h.2.1, ⟨t, ns, _, rfl, rfl, fun i hi => famNs_kept hlen (hkp' i hi)⟩, hrun.mono fun e w' ⟨h1, h2, β', ψ', k1, k2, k3, k4, k5⟩ => ⟨h1, blksT a'.bs β' ψ', (hK'.is _ _ _ _).2 ⟨t, famNs a' o' (envOf F (ns ++ xs)), a', β', ψ', rfl, hfam', by simp [famNs], k1, k2, k3, fun i => Iff.rfl⟩, k4, k5⟩⟩
end
def MethS.flat (m : MethS) (o : Out) : Option (List E) := (m.parts o).map fun p => .lit (Int.ofNat p.1) :: (p.2.1 ++ p.2.2)
section
variable {P : Program} {I : World -> Prop} {F G : Mng} {K K' : Kind} {call call' : Caller}
theorem flat_parts {m m' : MethS} (hrs : m'.m.rs = m.m.rs) {ρ : Env} {o o' : Out} {es es' : List E} (h : m.flat o = some es) (h' : m'.flat o' = some es') (he : E.evs ρ es' = E.evs ρ es) :
  ∃ k l c l' c', m.parts o = some (k, l, c) /\ m'.parts o' = some (k, l', c') /\ E.evs ρ l' = E.evs ρ l /\ E.evs ρ c' = E.evs ρ c := by
 obtain ⟨⟨k, l, c⟩, h1, rfl⟩ := Option.map_eq_some_iff.1 h; obtain ⟨⟨k', l', c'⟩, h1', rfl⟩ := Option.map_eq_some_iff.1 h'; simp only [E.evs] at he; obtain ⟨e0, e1⟩ := List.cons.inj he
 obtain rfl : k' = k := by
  have e0 : (k' : Int) = (k : Int) := e0; omega
 rw [evsMap, evsMap, List.map_append, List.map_append] at e1; have e2 := List.append_inj e1 (by rw [List.length_map, List.length_map, (parts_len h1').2.1, (parts_len h1).2.1, hrs])
 exact ⟨k', l, c, l', c', h1, h1', by rw [evsMap, evsMap]; exact e2.1, by rw [evsMap, evsMap]; exact e2.2⟩
theorem twinS_ok {m m' : MethS} {rs : Fam -> List Rule} (hK' : KindOk K') (hn : m'.m.name = m.m.name) (hrs : m'.m.rs = m.m.rs) (hks : m'.ks = m.ks) (hB : But2 m.m.name F G) (hlow : Low F) (hF : F m.m.name = methNS K G call m) (hF1 : F (m.m.name + 1) = methNC K G call m)
  (hcall : ∀ (ns : List Int) (w : World) (φ : Nat -> Prop), (∀ w', Kept w φ w' -> I w') -> CallOk P (envOf F ns) w φ [] call') (hR : ∀ (a : Fam) (ns : List Int), ∀ r ∈ rs a, RuleOk (envOf F ns) r)
  (hg : ∀ t a', K'.fam t = some a' -> m'.good K'.kp (rs a') a' (m'.m.tree call' a') = true /\ ∃ a kp rs0, K.fam t = some a /\ a.nv = a'.nv /\ m.good kp rs0 a (m.m.tree call a) = true /\ sameB a a' m.flat m'.flat [] (m'.m.tree call' a') (m.m.tree call a) = true) : MethSOk P I F K'.q K'.kp m' := fun X xs b φ w hxs hob hI => by
 obtain ⟨t, ns, a', β, ψ, e, hfam', hlen, rfl, hfs, hl, hφ⟩ := (hK'.is _ _ _ _).1 hob; obtain rfl : X = codL ((t : Int) :: ns) := by simpa using e
 obtain rfl : φ = blksT a'.bs β ψ := funext fun i => propext (hφ i)
 obtain ⟨hg', a, kp, rs0, hfam, hnv, hg0, hsame⟩ := hg t a' hfam'; obtain ⟨o', k', es', cs', p1', he', e1', e3', e2', hkp', hrun⟩ := methS_run (G := G) (hK'.ok t a' hfam') (hK'.nest t a' hfam') hlow (by rw [hn]; exact hB) hlen hfs hl (hcall (ns ++ xs) w _ hI) hxs (hR a' _) hg'
 obtain ⟨o, p1, _, _⟩ := MethS.pick_good hB (ns ++ xs) hg0; obtain ⟨es, es2, h1, h2, h3, h4⟩ := same_at (fun _ h => by cases h) hsame p1 p1'
 obtain ⟨k, l, c, l', c', q1, q2, q3, q4⟩ := flat_parts hrs h1 h2 h3; rw [he'] at q2; simp only [sEq, Prod.mk.injEq] at q2; obtain ⟨rfl, rfl, rfl⟩ := q2; obtain ⟨n1, n2, n3, n4⟩ := namesS_at hF hF1 hfam p1 q1
 have hobj : famNs a' o' (envOf F (ns ++ xs)) = famNs a o (envOf G (ns ++ xs)) := by
  rw [e2']; unfold famNs; rw [<- hnv]; exact h4
 have hval : fnVals (F m.m.name) (codL ((t : Int) :: ns) :: xs) (shSize m.m.rs) 2 = E.evs (envOf F (ns ++ xs)) es' := by rw [n2, e1', q3]
 have hcell : cellNs F m' (codL ((t : Int) :: ns) :: xs) k' = E.evs (envOf F (ns ++ xs)) cs' := by
  rw [e3', q4, <- n3]; unfold cellNs; rw [hn, hks]
 refine ⟨k', by rw [hn]; exact n1, (parts_len he').1, ?_⟩
 rw [hn, hrs, hval, n4, <- hobj, hcell]; rw [hrs] at hrun; refine ⟨calls_some hrun fun _ _ ⟨_, h⟩ => h.2.1, ⟨t, ns, _, rfl, rfl, fun i hi => famNs_kept hlen (hkp' i hi)⟩, hrun.mono fun e w' ⟨sv, h1, h2, β', ψ', k1, k2, k3, k4, k5, k6⟩ => ⟨sv, blksT a'.bs β' ψ', h1, (hK'.is _ _ _ _).2 ⟨t, famNs a' o' (envOf F (ns ++ xs)), a', β', ψ', rfl, hfam', by simp [famNs], k1, k2, k3, fun i => Iff.rfl⟩, k4, k5, k6⟩⟩
end
theorem pick_free2 {kp : Nat} {rs : List Rule} {m : MethS} {a : Fam} {F G : Mng} (h : But2 m.m.name F G) (ns : List Int) : ∀ {t : T Out} {o : Out}, m.good kp rs a t = true -> t.pickB (envOf G ns) = some o -> t.pickB (envOf F ns) = some o /\ m.leaf kp rs a o = true
 | .ok o, o', hg, hp => by
  obtain rfl := sinj hp; exact ⟨rfl, hg⟩
 | .br c t e, o', hg, hp => by
  simp only [MethS.good, bAnd] at hg
  have hc : c.ev (envOf F ns) = c.ev (envOf G ns) := by
   have := evs_free2 h ns hg.1.1
   simpa only [E.evs, List.cons.injEq, and_true] using this
  simp only [T.pickB] at hp ⊢; rw [hc]; split at hp
  ·rename_i h0; rw [if_pos h0]; exact pick_free2 h ns hg.1.2 hp
  ·rename_i h0; rw [if_neg h0]; exact pick_free2 h ns hg.2 hp
 | .both t e, _, hg, _ => by cases hg
 | .bad _, _, hg, _ => by cases hg
theorem leaf_free2 {kp : Nat} {rs : List Rule} {m : MethS} {a : Fam} {F G : Mng} (h : But2 m.m.name F G) (ns : List Int) {o : Out} (hl : m.leaf kp rs a o = true) {k : Nat} {es cs : List E} (he : m.parts o = some (k, es, cs)) :
  E.evs (envOf F ns) es = E.evs (envOf G ns) es /\ E.evs (envOf F ns) cs = E.evs (envOf G ns) cs /\ famNs a o (envOf F ns) = famNs a o (envOf G ns) := by
 rw [MethS.leaf, famFit_eq] at hl; simp only [bAnd] at hl; obtain ⟨⟨_, _, ⟨⟨l3, l4⟩, _⟩, _⟩, _⟩ := hl; rw [he] at l3; simp only [bAnd] at l3; refine ⟨evs_free2 h ns l3.1, evs_free2 h ns l3.2, ?_⟩; have := evs_free2 h ns l4; rw [evsMap, evsMap, List.map_map, List.map_map] at this; exact this
def endN (P : Program) (fn : Func) (kp : Nat) (rs : List Rule) (a a' : Fam) (m m' : MethS) (tr : T Out) (r : Rs) : Bool :=
 (match r.x with
  | .exit _ => false
  | _ => true) && (match resultsS P r.st fn.results.toList with
  | some vs => m'.leaf kp rs a' ⟨packS vs, r.st.hp, r.st.facts⟩ && allS (fun fs o => endS a a' m.flat m'.flat o fs ⟨packS vs, r.st.hp, r.st.facts⟩) r.st.facts tr
  | none => false)
def facN (a : Fam) (m : MethS) : Fs := (a.fs ++ (boxRngs a.bs ++ varFacts m.m.ps a.nv)).filter (m.m.sel a.nv)
structure LoopOk (P : Program) (call call' : Caller) (keep : Nat -> List Nat) (fuel : Nat) (C : Code) (fn : Func) (a a' : Fam) (m m' : MethS) (kp : Nat) (rs : List Rule) (cuts : List CutN) (rs0 : List Rule) : Prop where
 nv : a.nv = a'.nv
 enter : ∀ b : Nat, (execP P [(b, 0)] call' keep fuel C (entrySt fn (.ptr 0 0 :: varShs m'.m.ps a'.nv) (Hp.ofL a'.bs) (facN a' m'))).all (leafOkI [(b, 0)] cuts (endN P fn kp rs a a' m m' (m.m.tree call a)) rs0 (fun _ _ => true)) = true
 round : ∀ b : Nat, ∀ c ∈ cuts, ∀ t ∈ c.ts, ∃ ct : CT, ∀ g, ct.all fun p => ∃ l, SubC l cuts /\ roundOkI P [(b, 0)] call' keep fuel l (endN P fn kp rs a a' m m' (m.m.tree call a)) C (p ++ facN a' m') c t g = true
theorem loopS_ok {P : Program} {I : World -> Prop} {F G : Mng} {K K' : Kind} {call call' : Caller} {keep : Nat -> List Nat} {fuel : Nat} {C : Code} {fn : Func} {m m' : MethS} {rs : Fam -> List Rule} {cuts : Nat -> List CutN} {rs0 : Nat -> List Rule}
  (hm : P.follows .mixedOrders = true) (hfn : P.funcs[m'.m.f]? = some fn) (hbd : fn.body = some C) (hK' : KindOk K') (hn : m'.m.name = m.m.name) (hrs : m'.m.rs = m.m.rs) (hks : m'.ks = m.ks) (hB : But2 m.m.name F G) (hlow : Low F) (hF : F m.m.name = methNS K G call m) (hF1 : F (m.m.name + 1) = methNC K G call m)
  (hcall : ∀ (ρ : Env), ρ.fn = F -> ∀ (gl : Gl) (w : World) (φ : Nat -> Prop), (∀ w', Kept w φ w' -> I w') -> CallOk P ρ w φ gl call') (hR : ∀ (ρ : Env), ρ.fn = F -> ∀ (a : Fam), ∀ r ∈ rs a, RuleOk ρ r)
  (hR0 : ∀ (ρ : Env), ρ.fn = F -> ∀ t, ∀ r ∈ rs0 t, RuleOk ρ r) (hRt : ∀ (ρ : Env), ρ.fn = F -> ∀ t, ∀ c ∈ cuts t, ∀ u ∈ c.ts, ∀ r ∈ u.rs, RuleOk ρ r)
  (hg : ∀ t a', K'.fam t = some a' -> ∃ a kp rs1, K.fam t = some a /\ m.good kp rs1 a (m.m.tree call a) = true /\ LoopOk P call call' keep fuel C fn a a' m m' K'.kp (rs a') (cuts t) (rs0 t)) : MethSOk P I F K'.q K'.kp m' := fun X xs b φ w hxs hob hI => by
 obtain ⟨t, ns, a', β, ψ, e, hfam', hlen, rfl, hfs, hl, hφ⟩ := (hK'.is _ _ _ _).1 hob; obtain rfl : X = codL ((t : Int) :: ns) := by simpa using e
 obtain rfl : φ = blksT a'.bs β ψ := funext fun i => propext (hφ i)
 obtain ⟨a, kp, rs1, hfam, hg0, hL⟩ := hg t a' hfam'; have hok := hK'.ok t a' hfam'; have hO := hK'.nest t a' hfam'; have hparts := Fam.parts hok; have hok' := hok; simp only [Fam.ok, bAnd, blt_iff, dEq] at hok'; obtain ⟨⟨hpos, _⟩, hwf⟩ := hok'; have hnear := envOf_low (ms := xs) hlow hlen; have hlF := hl.near hnear hparts; have hh := hlF.heap hparts fun k x q es hk e vs b φ w => (hO k x q es hk e vs b φ w).1
 have hfa : SX.FsOk (envOf F (ns ++ xs)) a'.fs := facts_near hnear hwf hfs; have hdrop : (ns ++ xs).drop a'.nv = xs := by rw [<- hlen]; exact List.drop_left ..
 have hasf : shFits m'.m.ps ((ns ++ xs).drop a'.nv) := by rw [hdrop]; exact hxs
 obtain ⟨v1, v2, v3⟩ := varShs_spec (F := F) (β := β) (n := a'.bs.length) (hs := m'.m.ps) (i := a'.nv) hasf; rw [hdrop] at v1
 have hfacts0 : SX.FsOk (envOf F (ns ++ xs)) (a'.fs ++ (boxRngs a'.bs ++ varFacts m'.m.ps a'.nv)) :=
  SX.fsOk_app hfa (SX.fsOk_app (boxRngs_ok fun x hx => by
   obtain ⟨k, hk, rfl⟩ := List.getElem_of_mem hx; exact hlF.good k _ (lGe hk)) (varFacts_ok hasf))
 have hfacts : SX.FsOk (envOf F (ns ++ xs)) (facN a' m') := fun p hp => hfacts0 p (List.mem_filter.1 hp).1
 -- the other's end
 obtain ⟨o, p1, _, _⟩ := MethS.pick_good hB (ns ++ xs) hg0; obtain ⟨pF, hleaf⟩ := pick_free2 hB (ns ++ xs) hg0 p1
 have hrun := fn_runI (ax := facN a' m') (gl := [((β 0).1, 0)]) (ρ := envOf F (ns ++ xs)) (w0 := w) (M := blksT a'.bs β ψ) (β := β) (hp := Hp.ofL a'.bs) (keep := keep) (fuel := fuel) (call := call') (cuts := cuts t) (rs0 := rs0 t) (endOk := endN P fn K'.kp (rs a') a a' m m' (m.m.tree call a)) (C := C)
  (R := fun e w' => ∃ k es cs, m.parts o = some (k, es, cs) /\ ∃ sv, e = .returned (packV (sv :: shVals m.m.rs (E.evs (envOf F (ns ++ xs)) es))) /\ shFits m.m.rs (E.evs (envOf F (ns ++ xs)) es) /\ (∀ i, i < K'.kp -> (famNs a o (envOf F (ns ++ xs))).getD i 0 = ns.getD i 0) /\
   ∃ β2 ψ', (β2 0).1 = (β 0).1 /\ (∀ p ∈ a'.fs, (p.1.ev (envT FN (famNs a o (envOf F (ns ++ xs)))) ≠ 0 ↔ p.2 = true)) /\ TLay K'.O (envT FN (famNs a o (envOf F (ns ++ xs)))) a'.bs β2 ψ' w' /\ (∀ i, blksT a'.bs β2 ψ' i -> blksT a'.bs β ψ i \/ w.heap.size <= i) /\ Kept w (blksT a'.bs β ψ) w' /\ SlIs m' k (E.evs (envOf F (ns ++ xs)) cs) (blksT a'.bs β ψ) (blksT a'.bs β2 ψ') w w' sv)
  (args := .ptr 0 0 :: varShs m'.m.ps a'.nv) (fs0 := facN a' m') hfacts (hcall _ rfl _ _ _ hI) hm hfn hbd hh (fun p hp => by
   obtain rfl := List.mem_singleton.1 hp; exact ⟨rfl, hpos⟩) hfacts ⟨hpos, v2⟩ (fun c hc u hu r hr => hRt _ rfl t c hc u hu r hr) (hL.round _) (fun r hr => hR0 _ rfl t r hr) (hL.enter _) ?_
 ·have ev : SV.evs (envOf F (ns ++ xs)) β (.ptr 0 0 :: varShs m'.m.ps a'.nv) = .pointer (some ⟨(β 0).1, 0, none⟩) :: shVals m'.m.ps xs := by
   simp only [SV.evs, SV.ev]; rw [v1]
  rw [ev] at hrun; obtain ⟨k, es, cs, hpa⟩ : ∃ k es cs, m.parts o = some (k, es, cs) := calls_some hrun fun _ _ ⟨k, es, cs, h, _⟩ => ⟨k, es, cs, h⟩
  obtain ⟨f1, f2, f3⟩ := leaf_free2 hB (ns ++ xs) hleaf hpa; obtain ⟨n1, n2, n3, n4⟩ := namesS_at hF hF1 hfam p1 hpa; refine ⟨k, by rw [hn]; exact n1, (parts_len hpa).1, ?_⟩
  have hcell : cellNs F m' (codL ((t : Int) :: ns) :: xs) k = E.evs (envOf F (ns ++ xs)) cs := by
   rw [f2, <- n3]; unfold cellNs; rw [hn, hks]
  rw [hn, hrs, n2, n4, hcell, <- f1, <- f3]; refine ⟨calls_some hrun fun _ _ ⟨k', es', cs', h1, sv, h2, h3, _⟩ => ?_, ⟨t, ns, _, rfl, rfl, calls_some hrun fun _ _ ⟨k', es', cs', h1, sv, h2, h3, h4, _⟩ => h4⟩, hrun.mono fun e w' ⟨k', es', cs', h1, sv, h2, h3, h4, β2, ψ', k1, k2, k3, k4, k5, k6⟩ => ?_⟩
  ·rw [hpa] at h1
   simp only [sEq, Prod.mk.injEq] at h1; obtain ⟨rfl, rfl, rfl⟩ := h1; exact h3
  ·rw [hpa] at h1
   simp only [sEq, Prod.mk.injEq] at h1; obtain ⟨rfl, rfl, rfl⟩ := h1; exact ⟨sv, blksT a'.bs β2 ψ', h2, (hK'.is _ _ _ _).2 ⟨t, famNs a o (envOf F (ns ++ xs)), a', β2, ψ', rfl, hfam', by simp [famNs, hL.nv], k1, k2, k3, fun i => Iff.rfl⟩, k4, k5, k6⟩
 ·intro β' r act w' hc he
  have he' : ((match r.x with
   | .exit _ => false
   | _ => true) && (match resultsS P r.st fn.results.toList with
   | some vs => m'.leaf K'.kp (rs a') a' ⟨packS vs, r.st.hp, r.st.facts⟩ && allS (fun fs o => endS a a' m.flat m'.flat o fs ⟨packS vs, r.st.hp, r.st.facts⟩) r.st.facts (m.m.tree call a)
   | none => false)) = true := he
  rw [bAnd] at he'; obtain ⟨hx, he'⟩ := he'; refine ⟨fun id hid => (by rw [hid] at hx; cases hx), ?_⟩
  split at he'
  rotate_left
  ·cases he'
  rename_i vs hvs; rw [bAnd] at he'; obtain ⟨e1, e2⟩ := he'; refine ⟨vs, hvs, ?_⟩; obtain ⟨r1, r2⟩ := results_run hc hvs; obtain ⟨k', es', cs', sv, q1, q2, q3, q4, β2, ψ', q5, q6, q7, q8, q9⟩ := leafS_end (G0 := FN) (O := K'.O) (m := m') (a := a') (o := ⟨packS vs, r.st.hp, r.st.facts⟩) hok hO (ρ := envOf F (ns ++ xs)) (fun f hf => hlow f hf) hfa hc.heap hc.facts r2 (fun r hr => hR _ rfl a' r hr) e1
  obtain ⟨fs, hfs', hk⟩ := pick_S e2 hc.facts pF; obtain ⟨es, es2, g1, g2, g3, g4⟩ := endS_at hfs' hk; obtain ⟨k, l, c, l', c', d1, d2, d3, d4⟩ := flat_parts hrs g1 g2 g3; rw [q1] at d2; simp only [sEq, Prod.mk.injEq] at d2; obtain ⟨rfl, rfl, rfl⟩ := d2
  have hnum : famNs a' ⟨packS vs, r.st.hp, r.st.facts⟩ (envOf F (ns ++ xs)) = famNs a o (envOf F (ns ++ xs)) := by
   unfold famNs; rw [<- hL.nv]; exact g4
  refine ⟨k', l, c, d1, sv, ?_, ?_, fun i hi => ?_, β2, ψ', ?_, ?_, ?_, q8, hc.heap.kept, ?_⟩
  ·rw [<- d3, <- hrs]
   exact congrArg Ending.returned q3
  ·rw [<- d3, <- hrs]
   exact q4
  ·rw [<- hnum]
   exact famNs_kept hlen (q2 i hi)
  ·rw [q5]
   exact (hc.gl _ (List.mem_singleton.2 rfl)).1
  ·rw [<- hnum]; exact q6
  ·rw [<- hnum]; exact q7
  ·rw [<- d4]; exact q9
end
end Go.Proofs.YtfcpmapfhgibpaaGreatDoor
