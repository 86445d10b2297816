/- Methods, new objects; exchanges. -/
import Derived.Test.YtfcpmapfhgibpaaDoorWe
import Derived.Test.YtfcpmapfhgibpaaDoorWl
namespace Go.Proofs.YtfcpmapfhgibpaaDoor
open Go Go.RowKit SX Frm Frn
set_option linter.unusedVariables false
set_option linter.unusedSimpArgs false

/-- A kind of objects: its number, its layouts, the objects among its boxes, how many numbers stay. -/
structure Kind where
  q : Nat
  fam : Nat → Option Fam
  O : Nat → List Int → Nat → (Nat → Prop) → World → Prop
  kp : Nat
structure KindOk (K : Kind) : Prop where
  is : ∀ vs b φ w, Ob K.q vs b φ w ↔ TOb K.O FN K.fam codL vs b φ w
  ok : ∀ t a, K.fam t = some a → a.ok 60 = true
  nest : ∀ t a, K.fam t = some a → ∀ (k : Nat) (x : Box) (q : Nat) (es : List E), a.bs[k]? = some x → x.c = .obj q es → ∀ vs b φ w, K.O q vs b φ w ↔ Ob q vs b φ w
/-- The first kp numbers stay. -/
def Keeps (kp : Nat) (X Y : Int) : Prop := ∃ (t : Nat) (ns ms : List Int), X = codL ((t : Int) :: ns) ∧ Y = codL ((t : Int) :: ms) ∧ ∀ i, i < kp → ms.getD i 0 = ns.getD i 0
/-- What a method does is what its name says. -/
def MethOk (P : Program) (I : World → Prop) (F : Nat → Nat → List Int → Int) (q kp : Nat) (m : Meth) : Prop := ∀ (X : Int) (xs : List Int) (b : Nat) (φ : Nat → Prop) (w : World), shFits m.ps xs → Ob q [X] b φ w → (∀ w', Kept w φ w' → I w') →
  shFits m.rs (fnVals (F m.name) (X :: xs) (shSize m.rs) 1) ∧ Keeps kp X (F m.name 0 (X :: xs)) ∧ Calls P m.f (ptrV b :: shVals m.ps xs).toArray w fun e w' => e = .returned (packV (shVals m.rs (fnVals (F m.name) (X :: xs) (shSize m.rs) 1))) ∧
    ∃ φ', Ob q [F m.name 0 (X :: xs)] b φ' w' ∧ (∀ i, φ' i → φ i ∨ w.heap.size ≤ i) ∧ Kept w φ w'
theorem MethOk.congr {P : Program} {I : World → Prop} {F G : Nat → Nat → List Int → Int} {q kp : Nat} {m : Meth} (he : F m.name = G m.name) (h : MethOk P I G q kp m) : MethOk P I F q kp m := fun X xs b φ w => by
  rw [he]; exact h X xs b φ w
/-- What a method's name stands for. -/
noncomputable def methN (K : Kind) (G : Nat → Nat → List Int → Int) (call : Caller) (m : Meth) : Nat → List Int → Int := fun j ns => match ns with
  | X :: xs => match decL X with
    | t :: ms => match K.fam t.toNat with
      | some a => methV G codL a m.rs t.toNat (m.tree call a) j (ms ++ xs)
      | none => 0
    | [] => 0
  | [] => 0
section
variable {P : Program} {I : World → Prop} {F G : Nat → Nat → List Int → Int} {K : Kind} {m : Meth} {call : Caller}
theorem methN_at {t : Nat} {ns xs : List Int} {a : Fam} (hfam : K.fam t = some a) (j : Nat) : methN K G call m j (codL ((t : Int) :: ns) :: xs) = methV G codL a m.rs t (m.tree call a) j (ns ++ xs) := by
  unfold methN
  simp only [decL_cod, Int.toNat_natCast, hfam]
theorem famNs_kept {a : Fam} {o : Out} {ns zs : List Int} {i : Nat} (hl : ns.length = a.nv) (h : famS a o i = .var i) : (famNs a o (envOf F (ns ++ zs))).getD i 0 = ns.getD i 0 := by
  unfold famNs
  by_cases hi : i < a.nv
  · rw [List.getD_eq_getElem?_getD, List.getElem?_map, List.getElem?_range hi]
    show (famS a o i).ev _ = _
    rw [h]
    show (ns ++ zs).getD i 0 = _
    rw [List.getD_eq_getElem?_getD, List.getElem?_append_left (by omega), ← List.getD_eq_getElem?_getD]
  · rw [List.getD_eq_getElem?_getD, List.getElem?_eq_none (by simp; omega), List.getD_eq_getElem?_getD, List.getElem?_eq_none (by omega)]
theorem meth_ok {rs : Fam → List Rule} (hK : KindOk K) (hB : But m.name F G) (hlow : Low F) (hF : F m.name = methN K G call m) (hcall : ∀ (ns : List Int) (w : World) (φ : Nat → Prop), (∀ w', Kept w φ w' → I w') → CallOk P (envOf F ns) w φ [] call)
    (hR : ∀ (a : Fam) (ns : List Int), ∀ r ∈ rs a, RuleOk (envOf F ns) r) (hg : ∀ t a, K.fam t = some a → m.good K.kp (rs a) a (m.tree call a) = true) : MethOk P I F K.q K.kp m := fun X xs b φ w hxs hob hI => by
  obtain ⟨t, ns, a, β, ψ, e, hfam, hlen, rfl, hfs, hl, hφ⟩ := (hK.is _ _ _ _).1 hob
  obtain rfl : X = codL ((t : Int) :: ns) := by simpa using e
  obtain rfl : φ = blksT a.bs β ψ := funext fun i => propext (hφ i)
  obtain ⟨o, es, p1, he, e1, e2, hkp, hrun⟩ := meth_run (hK.ok t a hfam) (hK.nest t a hfam) hlow hB hlen hfs hl (hcall (ns ++ xs) w _ hI) hxs (hR a _) (hg t a hfam)
  have hlen' : (E.evs (envOf F (ns ++ xs)) es).length = shSize m.rs := by
    rw [evs_len]
    unfold leafE at he
    split at he
    · exact shTakes_len he
    · cases he
  have hval : fnVals (F m.name) (codL ((t : Int) :: ns) :: xs) (shSize m.rs) 1 = E.evs (envOf F (ns ++ xs)) es := by
    rw [← hlen']
    refine fnVals_getD _ _ _ 1 fun i => ?_
    rw [hF, methN_at hfam]
    unfold methV
    simp only [p1, he, if_neg (show 1 + i ≠ 0 by omega), Nat.add_sub_cancel_left]
    rw [e1]
  have hobj : F m.name 0 (codL ((t : Int) :: ns) :: xs) = codL ((t : Int) :: famNs a o (envOf F (ns ++ xs))) := by
    rw [hF, methN_at hfam]
    unfold methV
    simp only [p1, if_true]
    rw [e2]
  rw [hval, hobj]
  refine ⟨calls_some hrun fun _ _ h => h.2.1, ⟨t, ns, _, rfl, rfl, fun i hi => famNs_kept hlen (hkp i hi)⟩, hrun.mono fun e w' ⟨h1, h2, β', ψ', k1, k2, k3, k4, k5⟩ => ⟨h1, blksT a.bs β' ψ', (hK.is _ _ _ _).2 ⟨t, famNs a o (envOf F (ns ++ xs)), a, β', ψ', rfl, hfam, by simp [famNs], k1, k2, k3, fun i => Iff.rfl⟩, k4, k5⟩⟩
/-- A method at an object that is known. -/
def spMeth (q : Nat) (m : Meth) : SpcT := fun f args hp fs => if f = m.f then (match args with
  | .ptr k 0 :: rest => (match objOf q hp k, shTakes m.ps rest with
    | some x, some es => some (.ok ⟨packS (shApps m.name (canon fs x :: canons fs es) m.rs 1), hp.put k ⟨true, .obj q [.app m.name 0 (canon fs x :: canons fs es)]⟩, fs⟩)
    | _, _ => none)
  | _ => none) else none
theorem spMeth_ok {ρ : Env} {w0 : World} {M : Nat → Prop} {gl : Gl} {q kp : Nat} (hm : MethOk P I ρ.fn q kp m) (hI : ∀ w', Kept w0 M w' → I w') : SpecOkT P ρ w0 M gl (spMeth q m) := fun f args hp fs t ht β w K hh hfs ha hg hK => by
  unfold spMeth at ht
  split at ht
  · rename_i hfe
    subst hfe
    split at ht
    · rename_i k rest
      split at ht
      · rename_i x es hx hes
        obtain rfl := Option.some.inj ht
        obtain ⟨φ, ho⟩ := hh.objs
        have hob := ho.has k _ q [x] (objOf_spec hx) rfl
        obtain ⟨a1, a2⟩ := shTakes_spec (β := β) ha.2 hes
        have hA : E.evs ρ (canon fs x :: canons fs es) = x.ev ρ :: E.evs ρ es := by
          show (canon fs x).ev ρ :: E.evs ρ (canons fs es) = _
          rw [canon_ev hfs, canons_ev hfs]
        obtain ⟨f1, _, f2⟩ := hm (x.ev ρ) (E.evs ρ es) (β k).1 (φ k) w a2 hob fun w' hk => hI w' (Kept.nest hh.kept (fun i hi => ho.own k _ (objOf_spec hx) rfl i hi) hk)
        have f1' := f1
        rw [← hA] at f1'
        obtain ⟨b1, b2⟩ := shApps_spec (β := β) (n := hp.n) m.name _ m.rs 1 _ (Nat.le_refl _) f1'
        obtain ⟨c1, c2⟩ := packS_spec (β := β) _ b2
        have hargs : SV.evs ρ β (.ptr k 0 :: rest) = ptrV (β k).1 :: shVals m.ps (E.evs ρ es) := by
          simp only [SV.evs, SV.ev, a1]; rfl
        rw [hargs]
        refine f2.mono fun e w' ⟨he, φ', h1, h2, h3⟩ => ⟨_, ?_, hK β w' (Ext.refl _ _) (Nat.le_refl _) (stay_put (objOf_spec hx)) (Heap.turn_ hh ho (objOf_spec hx) (φ' := φ') ?_ h2 h3) hfs c2⟩
        · rw [he, c1, b1, hA]
        · show Ob q [ρ.fn m.name 0 (E.evs ρ (canon fs x :: canons fs es))] _ _ _
          rw [hA]; exact h1
      · cases ht
    · cases ht
  · cases ht
end
def exK : Kind := ⟨3, exFam, Ob1, 0⟩
def clK : Kind := ⟨5, clFam, Ob3, 6⟩
theorem exK_ok : KindOk exK := ⟨fun vs b φ w => Iff.rfl, exFam_ok, fun t a h k x q es hk e => by
  have h : exFam t = some a := h
  unfold exFam at h
  split at h
  · obtain rfl := Option.some.inj h
    match k, hk with
    | 0, hk => obtain rfl := Option.some.inj hk; cases e
    | k + 1, hk => cases hk
  · cases h⟩
end Go.Proofs.YtfcpmapfhgibpaaDoor
namespace Go.Proofs.YtfcpmapfhgibpaaDoor
open Go Go.RowKit SX Frm Frn
set_option linter.unusedVariables false
set_option linter.unusedSimpArgs false

def makSt (o : Out) : St := ⟨1, fun _ => o.v, o.hp, o.fs⟩
def makS (rs : List Rule) (a : Fam) (o : Out) : Nat → E := (famTm a).solve (withR rs (makSt o))
def makOk (rs : List Rule) (a : Fam) (o : Out) : Bool := (famTm a).fit [] (makS rs a o) (withR rs (makSt o)) && fitF (withR rs (makSt o)).facts (makS rs a o) a.fs
def makNs (rs : List Rule) (a : Fam) (o : Out) (ρ : Env) : List Int := (List.range a.nv).map fun i => (makS rs a o i).ev ρ
/-- What a call has made is an object. -/
theorem made_run {K : Kind} (hK : KindOk K) {t : Nat} {a : Fam} (hfam : K.fam t = some a) {ρ : Env} (hlow : Low ρ.fn) {rs : List Rule} {o : Out} {w w' : World} {β : Bm} (hh : Heap ρ w (fun _ => False) β o.hp w') (hf : SX.FsOk ρ o.fs) (hR : ∀ r ∈ rs, RuleOk ρ r) (hv : o.v.ok ρ o.hp.n) (h : makOk rs a o = true) :
    ∃ b φ, o.v.ev ρ β = ptrV b ∧ Ob K.q [codL ((t : Int) :: makNs rs a o ρ)] b φ w' ∧ (∀ i, φ i → w.heap.size ≤ i) ∧ Below w.heap.size w w' := by
  have hfamok := hK.ok t a hfam
  have hparts := Fam.parts hfamok
  have hfam' := hfamok
  simp only [Fam.ok, Bool.and_eq_true, blt_iff, decide_eq_true_eq] at hfam'
  obtain ⟨⟨hpos, _⟩, hwf⟩ := hfam'
  have hconc : Conc ρ w (fun _ => False) [] β (makSt o) ⟨#[o.v.ev ρ β], []⟩ w' :=
    ⟨rfl, fun i hi => by
      have hi : i < 1 := hi
      obtain rfl : i = 0 := by omega
      rfl, rfl, fun i hi => hv, hh, hf, fun p hp => by cases hp⟩
  simp only [makOk, Bool.and_eq_true] at h
  have hfit := Tm.fit_run (withR_conc hconc hR) h.1
  have hheap : Heap (envSub ρ (makS rs a o)) w (fun _ => False) (fun k => β ((famTm a).ren (withR rs (makSt o)) k)) (Hp.ofL a.bs) w' := hfit.heap
  obtain ⟨ψ', t1, t2⟩ := hheap.tlay hparts fun k x q es hk e vs b φ w => (hK.nest t a hfam k x q es hk e vs b φ w).2
  have hnr : Near a.nv 60 (envSub ρ (makS rs a o)) (envT FN (makNs rs a o ρ)) := ⟨fun i hi => by
    show (makS rs a o i).ev _ = (makNs rs a o _).getD i 0
    unfold makNs
    rw [List.getD_eq_getElem?_getD, List.getElem?_map, List.getElem?_range hi]
    rfl, fun f hf => hlow f hf⟩
  have htmp := hfit.tmps 0 (by show 0 < 1; omega)
  have htmp : some (o.v.ev ρ β) = some (Value.pointer (some ⟨(β ((famTm a).ren (withR rs (makSt o)) 0)).1, 0, none⟩)) := htmp
  refine ⟨(β ((famTm a).ren (withR rs (makSt o)) 0)).1, blksT a.bs _ ψ', Option.some.inj htmp, (hK.is _ _ _ _).2 ⟨t, makNs rs a o ρ, a, _, ψ', rfl, hfam, by simp [makNs], rfl, facts_near hnr hwf (fitF_ok (withR_conc hconc hR).facts h.2), t1.near hnr hparts, fun i => Iff.rfl⟩, fun i hi => (t2 i hi).resolve_left id, hh.kept.to_below⟩
end Go.Proofs.YtfcpmapfhgibpaaDoor
namespace Go.Proofs.YtfcpmapfhgibpaaDoor
open Go Go.RowKit SX Frm Frn
set_option linter.unusedVariables false

def stSh : Sh := .agg [.int .i64, .int .i64]
def insRs : List Sh := [i1, .one .bool]
def sumsN : Sums := fun _ _ => none
def kA : Sm := ⟨17, 61, [ptSh], [i1]⟩
def insA : Sm := ⟨64, 62, [stSh], insRs⟩
def adA : Sm := ⟨68, 63, [i1, i1], insRs⟩
noncomputable def smT (s : Sm) : T Out := callF Tryd.prog [] okF sumsN noKeep 80 30 s.f (varShs s.ps 0) .nil (varFacts s.ps 0)
noncomputable def nm61 : Nat → Nat → List Int → Int := fun f => if f = 61 then autoF FN kA.rs (smT kA) else FN f
theorem but61 : But 61 nm61 FN := fun f hf => if_neg hf
set_option maxRecDepth 1000000 in
theorem good61 : (smT kA).good 61 kA.rs = true := by kernel_rfl
theorem sm61 (ρ : Env) (h : ρ.fn = nm61) (w : World) (M : Nat → Prop) : SmOk Tryd.prog ρ w M kA :=
  smAuto (okF := okF) (sums := sumsN) (keep := noKeep) (fuel := 80) (n := 30) (G := FN) mixed okF_ok but61 (fun ns w' _ => sums_none _ _ _ _) h (fun ns j => congrFun (congrFun (if_pos rfl : nm61 61 = autoF FN kA.rs (smT kA)) j) ns) good61
noncomputable def nm62 : Nat → Nat → List Int → Int := fun f => if f = 62 then autoF nm61 insA.rs (smT insA) else nm61 f
theorem but62 : But 62 nm62 nm61 := fun f hf => if_neg hf
set_option maxRecDepth 1000000 in
theorem good62 : (smT insA).good 62 insA.rs = true := by kernel_rfl
theorem sm62 (ρ : Env) (h : ρ.fn = nm62) (w : World) (M : Nat → Prop) : SmOk Tryd.prog ρ w M insA :=
  smAuto (okF := okF) (sums := sumsN) (keep := noKeep) (fuel := 80) (n := 30) (G := nm61) mixed okF_ok but62 (fun ns w' _ => sums_none _ _ _ _) h (fun ns j => congrFun (congrFun (if_pos rfl : nm62 62 = autoF nm61 insA.rs (smT insA)) j) ns) good62
noncomputable def nm63 : Nat → Nat → List Int → Int := fun f => if f = 63 then autoF nm62 adA.rs (smT adA) else nm62 f
theorem but63 : But 63 nm63 nm62 := fun f hf => if_neg hf
set_option maxRecDepth 1000000 in
theorem good63 : (smT adA).good 63 adA.rs = true := by kernel_rfl
theorem sm63 (ρ : Env) (h : ρ.fn = nm63) (w : World) (M : Nat → Prop) : SmOk Tryd.prog ρ w M adA :=
  smAuto (okF := okF) (sums := sumsN) (keep := noKeep) (fuel := 80) (n := 30) (G := nm62) mixed okF_ok but63 (fun ns w' _ => sums_none _ _ _ _) h (fun ns j => congrFun (congrFun (if_pos rfl : nm63 63 = autoF nm62 adA.rs (smT adA)) j) ns) good63
/-- Meanings that have these names. -/
structure Mid (F : Nat → Nat → List Int → Int) : Prop where
  low : Low F
  chk : F 61 = nm61 61
  ins : F 62 = nm62 62
  add : F 63 = nm63 63
theorem mid63 : Mid nm63 := ⟨fun f hf => (but63 f (by omega)).trans ((but62 f (by omega)).trans (but61 f (by omega))), (but63 61 (by decide)).trans (but62 61 (by decide)), but63 62 (by decide), rfl⟩
def sumsE : Sums := sumsOf [kA, insA, adA]
set_option maxRecDepth 1000000 in
theorem sumsE_ok {ρ : Env} (h : Mid ρ.fn) (w : World) (M : Nat → Prop) : SumsOk Tryd.prog ρ w M sumsE := sumsOf_ok fun s hs => by
  simp only [List.mem_cons, List.not_mem_nil, or_false] at hs
  rcases hs with rfl | rfl | rfl
  · exact SmOk.congr (ρ := envOf nm61 []) (ρ' := ρ) (s := kA) (show ρ.fn 61 = nm61 61 from h.chk) (sm61 (envOf nm61 []) rfl w M)
  · exact SmOk.congr (ρ := envOf nm62 []) (ρ' := ρ) (s := insA) (show ρ.fn 62 = nm62 62 from h.ins) (sm62 (envOf nm62 []) rfl w M)
  · exact SmOk.congr (ρ := envOf nm63 []) (ρ' := ρ) (s := adA) (show ρ.fn 63 = nm63 63 from h.add) (sm63 (envOf nm63 []) rfl w M)
def spE : SpcT := ofSpc (sumSpec sumsE)
noncomputable def callE : Caller := callH Tryd.prog [] okF spE noKeep 80 30
theorem callE_ok {F : Nat → Nat → List Int → Int} (h : Mid F) (ns : List Int) (w : World) (M : Nat → Prop) : CallOk Tryd.prog (envOf F ns) w M [] callE :=
  callH_run mixed okF_ok (ofSpc_ok (sumSpec_ok (sumsE_ok (ρ := envOf F ns) h w M))) 30
def exSync : Meth := ⟨48, 64, [ptSh, i1], [i1], fun _ _ => true⟩
def exFoll : Meth := ⟨46, 65, [ptSh], [i1], fun _ _ => true⟩
def exReq : Meth := ⟨43, 66, [i1, i1], [i1], fun _ _ => true⟩
def exResp : Meth := ⟨50, 67, [ptSh, .one (.int .u64), i1], [i1], fun _ _ => true⟩
def exOff : Meth := ⟨44, 68, [], [i1, .one .bool], fun _ _ => true⟩
def exA : Fam := ⟨[⟨true, .cells [iV 0, bV 1, uV 2, iV 3, iV 4, iV 5, iV 6, bV 7, iV 8, iV 9, iV 10, bV 11, iV 12, iV 13, bV 14, iV 15] 112 0⟩], [], 16⟩
theorem exA_only {t : Nat} {a : Fam} (h : exK.fam t = some a) : a = exA := by
  have h : exFam t = some a := h
  unfold exFam at h
  split at h
  · exact (Option.some.inj h).symm
  · cases h
/-- No tables are asked for. -/
def AnyW (_ : World) : Prop := True
noncomputable def nm64 : Nat → Nat → List Int → Int := fun f => if f = 64 then methN exK nm63 callE exSync else nm63 f
theorem but64 : But 64 nm64 nm63 := fun f hf => if_neg hf
theorem mid64 : Mid nm64 := ⟨fun f hf => (but64 f (by omega)).trans (mid63.low f hf), (but64 61 (by decide)).trans mid63.chk, (but64 62 (by decide)).trans mid63.ins, (but64 63 (by decide)).trans mid63.add⟩
set_option maxRecDepth 1000000 in
theorem good64 : exSync.good 0 [] exA (exSync.tree callE exA) = true := by kernel_rfl
theorem meth64 : MethOk Tryd.prog AnyW nm64 3 0 exSync :=
  meth_ok (K := exK) (G := nm63) (call := callE) (rs := fun _ => []) exK_ok but64 mid64.low (if_pos rfl) (fun ns w φ _ => callE_ok mid64 ns w φ) (fun _ _ _ hr => by cases hr) fun t a h => by rw [exA_only h]; exact good64
noncomputable def nm65 : Nat → Nat → List Int → Int := fun f => if f = 65 then methN exK nm64 callE exFoll else nm64 f
theorem but65 : But 65 nm65 nm64 := fun f hf => if_neg hf
theorem mid65 : Mid nm65 := ⟨fun f hf => (but65 f (by omega)).trans (mid64.low f hf), (but65 61 (by decide)).trans mid64.chk, (but65 62 (by decide)).trans mid64.ins, (but65 63 (by decide)).trans mid64.add⟩
set_option maxRecDepth 1000000 in
theorem good65 : exFoll.good 0 [] exA (exFoll.tree callE exA) = true := by kernel_rfl
theorem meth65 : MethOk Tryd.prog AnyW nm65 3 0 exFoll :=
  meth_ok (K := exK) (G := nm64) (call := callE) (rs := fun _ => []) exK_ok but65 mid65.low (if_pos rfl) (fun ns w φ _ => callE_ok mid65 ns w φ) (fun _ _ _ hr => by cases hr) fun t a h => by rw [exA_only h]; exact good65
noncomputable def nm66 : Nat → Nat → List Int → Int := fun f => if f = 66 then methN exK nm65 callE exReq else nm65 f
theorem but66 : But 66 nm66 nm65 := fun f hf => if_neg hf
theorem mid66 : Mid nm66 := ⟨fun f hf => (but66 f (by omega)).trans (mid65.low f hf), (but66 61 (by decide)).trans mid65.chk, (but66 62 (by decide)).trans mid65.ins, (but66 63 (by decide)).trans mid65.add⟩
set_option maxRecDepth 1000000 in
theorem good66 : exReq.good 0 [] exA (exReq.tree callE exA) = true := by kernel_rfl
theorem meth66 : MethOk Tryd.prog AnyW nm66 3 0 exReq :=
  meth_ok (K := exK) (G := nm65) (call := callE) (rs := fun _ => []) exK_ok but66 mid66.low (if_pos rfl) (fun ns w φ _ => callE_ok mid66 ns w φ) (fun _ _ _ hr => by cases hr) fun t a h => by rw [exA_only h]; exact good66
noncomputable def nm67 : Nat → Nat → List Int → Int := fun f => if f = 67 then methN exK nm66 callE exResp else nm66 f
theorem but67 : But 67 nm67 nm66 := fun f hf => if_neg hf
theorem mid67 : Mid nm67 := ⟨fun f hf => (but67 f (by omega)).trans (mid66.low f hf), (but67 61 (by decide)).trans mid66.chk, (but67 62 (by decide)).trans mid66.ins, (but67 63 (by decide)).trans mid66.add⟩
set_option maxRecDepth 1000000 in
theorem good67 : exResp.good 0 [] exA (exResp.tree callE exA) = true := by kernel_rfl
theorem meth67 : MethOk Tryd.prog AnyW nm67 3 0 exResp :=
  meth_ok (K := exK) (G := nm66) (call := callE) (rs := fun _ => []) exK_ok but67 mid67.low (if_pos rfl) (fun ns w φ _ => callE_ok mid67 ns w φ) (fun _ _ _ hr => by cases hr) fun t a h => by rw [exA_only h]; exact good67
noncomputable def nm68 : Nat → Nat → List Int → Int := fun f => if f = 68 then methN exK nm67 callE exOff else nm67 f
theorem but68 : But 68 nm68 nm67 := fun f hf => if_neg hf
theorem mid68 : Mid nm68 := ⟨fun f hf => (but68 f (by omega)).trans (mid67.low f hf), (but68 61 (by decide)).trans mid67.chk, (but68 62 (by decide)).trans mid67.ins, (but68 63 (by decide)).trans mid67.add⟩
set_option maxRecDepth 1000000 in
theorem good68 : exOff.good 0 [] exA (exOff.tree callE exA) = true := by kernel_rfl
theorem meth68 : MethOk Tryd.prog AnyW nm68 3 0 exOff :=
  meth_ok (K := exK) (G := nm67) (call := callE) (rs := fun _ => []) exK_ok but68 mid68.low (if_pos rfl) (fun ns w φ _ => callE_ok mid68 ns w φ) (fun _ _ _ hr => by cases hr) fun t a h => by rw [exA_only h]; exact good68
end Go.Proofs.YtfcpmapfhgibpaaDoor
namespace Go.Proofs.YtfcpmapfhgibpaaDoor
open Go Go.RowKit SX Frm Frn
set_option linter.unusedVariables false
def objQ (c : Bx) : Bool := match c with
  | .obj q _ => Nat.beq q 1 || Nat.beq q 3
  | _ => true
set_option maxRecDepth 100000 in
theorem clFam_objs : ((List.range 9).all fun n => (clFam n).all fun a => a.bs.all fun x => objQ x.c) = true := by kernel_rfl
theorem clK_ok : KindOk clK := ⟨fun vs b φ w => Iff.rfl, clFam_ok, fun t a h k x q es hk e vs b φ w => by
  have h : clFam t = some a := h
  have ht : 1 ≤ t ∧ t ≤ 8 := by
    by_cases c : 1 ≤ t ∧ t ≤ 8
    · exact c
    · unfold clFam at h; rw [if_neg c] at h; cases h
  have h1 := List.all_eq_true.1 clFam_objs t (List.mem_range.2 (by omega))
  rw [h] at h1
  have h2 := List.all_eq_true.1 (show (a.bs.all fun x => objQ x.c) = true from h1) x (List.mem_of_getElem? hk)
  rw [e] at h2
  simp only [objQ, Bool.or_eq_true, beq_iff, decide_eq_true_eq] at h2
  show Ob3 q vs b φ w ↔ Ob q vs b φ w
  unfold Ob
  rw [if_neg (by omega)]⟩
end Go.Proofs.YtfcpmapfhgibpaaDoor
