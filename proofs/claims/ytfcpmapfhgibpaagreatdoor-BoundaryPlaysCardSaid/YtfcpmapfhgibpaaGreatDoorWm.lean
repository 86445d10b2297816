/- New objects; exchanges, the program's and the reference's. -/
import Derived.Test.YtfcpmapfhgibpaaGreatDoorWl
import Derived.Barred
set_option linter.unusedVariables false
set_option linter.unusedSimpArgs false
set_option maxRecDepth 1000000
namespace Go.Proofs.YtfcpmapfhgibpaaGreatDoor
noncomputable section
open Go Go.RowKit SX Frm Frn
def makSt (o : Out) : St := ⟨1, fun _ => o.v, o.hp, o.fs⟩
def makS (rs : List Rule) (a : Fam) (o : Out) : Nat -> E := (famTm a).solve (withR rs (makSt o))
def makOk (rs : List Rule) (a : Fam) (o : Out) : Bool := (famTm a).fit [] (makS rs a o) (withR rs (makSt o)) && fitF (withR rs (makSt o)).facts (makS rs a o) a.fs
def makNs (rs : List Rule) (a : Fam) (o : Out) (ρ : Env) : List Int := (List.range a.nv).map fun i => (makS rs a o i).ev ρ
theorem made_lay {O : Nat -> List Int -> Nat -> (Nat -> Prop) -> World -> Prop} {fam : Nat -> Option Fam} {t : Nat} {a : Fam} (hfam : fam t = some a) (hfamok : a.ok 60 = true) (hnest : ∀ (k : Nat) (x : Box) (q : Nat) (es : List E), a.bs[k]? = some x -> x.c = .obj q es -> ∀ vs b φ w, O q vs b φ w ↔ Ob q vs b φ w) {ρ : Env} (hlow : Low ρ.fn) {rs : List Rule} {o : Out} {w w' : World} {β : Bm} (hh : Heap ρ w (fun _ => False) β o.hp w') (hf : SX.FsOk ρ o.fs) (hR : ∀ r ∈ rs, RuleOk ρ r) (hv : o.v.ok ρ o.hp.n) (h : makOk rs a o = true) :
  ∃ b φ, o.v.ev ρ β = ptrV b /\ TOb O FN fam codL [codL ((t : Int) :: makNs rs a o ρ)] b φ w' /\ (∀ i, φ i -> w.heap.size <= i) /\ Below w.heap.size w w' := by
 have hparts := Fam.parts hfamok; have hfam' := hfamok; simp only [Fam.ok, bAnd, blt_iff, dEq] at hfam'; obtain ⟨⟨hpos, _⟩, hwf⟩ := hfam'
 have hconc : Conc ρ w (fun _ => False) [] β (makSt o) ⟨#[o.v.ev ρ β], []⟩ w' :=
  ⟨rfl, fun i hi => by
   have hi : i < 1 := hi; obtain rfl : i = 0 := by omega
   rfl, rfl, fun i hi => hv, hh, hf, fun p hp => by cases hp⟩
 simp only [makOk, bAnd] at h; have hfit := Tm.fit_run (withR_conc hconc hR) h.1; have hheap : Heap (envSub ρ (makS rs a o)) w (fun _ => False) (fun k => β ((famTm a).ren (withR rs (makSt o)) k)) (Hp.ofL a.bs) w' := hfit.heap
 obtain ⟨ψ', t1, t2⟩ := hheap.tlay hparts fun k x q es hk e vs b φ w => (hnest k x q es hk e vs b φ w).2
 have hnr : Near a.nv 60 (envSub ρ (makS rs a o)) (envT FN (makNs rs a o ρ)) := ⟨fun i hi => by
  show (makS rs a o i).ev _ = (makNs rs a o _).getD i 0; unfold makNs; rw [gDe, lMp, lRa hi]; rfl, fun f hf => hlow f hf⟩
 have htmp := hfit.tmps 0 (by show 0 < 1; omega)
 have htmp : some (o.v.ev ρ β) = some (Value.pointer (some ⟨(β ((famTm a).ren (withR rs (makSt o)) 0)).1, 0, none⟩)) := htmp; refine ⟨(β ((famTm a).ren (withR rs (makSt o)) 0)).1, blksT a.bs _ ψ', sinj htmp, ⟨t, makNs rs a o ρ, a, _, ψ', rfl, hfam, by simp [makNs], rfl, facts_near hnr hwf (fitF_ok (withR_conc hconc hR).facts h.2), t1.near hnr hparts, fun i => Iff.rfl⟩, fun i hi => (t2 i hi).resolve_left id, hh.kept.to_below⟩
theorem made_run {K : Kind} (hK : KindOk K) {t : Nat} {a : Fam} (hfam : K.fam t = some a) {ρ : Env} (hlow : Low ρ.fn) {rs : List Rule} {o : Out} {w w' : World} {β : Bm} (hh : Heap ρ w (fun _ => False) β o.hp w') (hf : SX.FsOk ρ o.fs) (hR : ∀ r ∈ rs, RuleOk ρ r) (hv : o.v.ok ρ o.hp.n) (h : makOk rs a o = true) :
  ∃ b φ, o.v.ev ρ β = ptrV b /\ Ob K.q [codL ((t : Int) :: makNs rs a o ρ)] b φ w' /\ (∀ i, φ i -> w.heap.size <= i) /\ Below w.heap.size w w' := by
 obtain ⟨b, φ, h1, h2, h3⟩ := made_lay hfam (hK.ok t a hfam) (hK.nest t a hfam) hlow hh hf hR hv h; exact ⟨b, φ, h1, (hK.is _ _ _ _).2 h2, h3⟩
def stSh : Sh := .agg [.int .i64, .int .i64]
def insRs : List Sh := [i1, .one .bool]
def sumsN : Sums := fun _ _ => none
def kA : Sm := ⟨70, 61, [ptSh], [i1]⟩
def insA : Sm := ⟨103, 62, [stSh], insRs⟩
def adA : Sm := ⟨107, 63, [i1, i1], insRs⟩
def smT (s : Sm) : T Out := callF Tryz.prog [] okF sumsN noKeep 80 30 s.f (varShs s.ps 0) .nil (varFacts s.ps 0)
def nm61 : Mng := fun f => if f = 61 then autoF FN kA.rs (smT kA) else FN f
theorem but61 : But 61 nm61 FN := fun f hf => if_neg hf
theorem good61 : (smT kA).good 61 kA.rs = true := by kernel_rfl
theorem sm61 (ρ : Env) (h : ρ.fn = nm61) (w : World) (M : Nat -> Prop) : SmOk Tryz.prog ρ w M kA :=
 smAuto (okF := okF) (sums := sumsN) (keep := noKeep) (fuel := 80) (n := 30) (G := FN) mixed okF_ok but61 (fun ns w' _ => sums_none _ _ _ _) h (fun ns j => congrFun (congrFun (if_pos rfl : nm61 61 = autoF FN kA.rs (smT kA)) j) ns) good61
def nm62 : Mng := fun f => if f = 62 then autoF nm61 insA.rs (smT insA) else nm61 f
theorem but62 : But 62 nm62 nm61 := fun f hf => if_neg hf
theorem good62 : (smT insA).good 62 insA.rs = true := by kernel_rfl
theorem sm62 (ρ : Env) (h : ρ.fn = nm62) (w : World) (M : Nat -> Prop) : SmOk Tryz.prog ρ w M insA :=
 smAuto (okF := okF) (sums := sumsN) (keep := noKeep) (fuel := 80) (n := 30) (G := nm61) mixed okF_ok but62 (fun ns w' _ => sums_none _ _ _ _) h (fun ns j => congrFun (congrFun (if_pos rfl : nm62 62 = autoF nm61 insA.rs (smT insA)) j) ns) good62
def nm63 : Mng := fun f => if f = 63 then autoF nm62 adA.rs (smT adA) else nm62 f
theorem but63 : But 63 nm63 nm62 := fun f hf => if_neg hf
theorem good63 : (smT adA).good 63 adA.rs = true := by kernel_rfl
theorem sm63 (ρ : Env) (h : ρ.fn = nm63) (w : World) (M : Nat -> Prop) : SmOk Tryz.prog ρ w M adA :=
 smAuto (okF := okF) (sums := sumsN) (keep := noKeep) (fuel := 80) (n := 30) (G := nm62) mixed okF_ok but63 (fun ns w' _ => sums_none _ _ _ _) h (fun ns j => congrFun (congrFun (if_pos rfl : nm63 63 = autoF nm62 adA.rs (smT adA)) j) ns) good63
structure Mid (F : Mng) : Prop where
 low : Low F
 chk : F 61 = nm61 61
 ins : F 62 = nm62 62
 add : F 63 = nm63 63
theorem mid63 : Mid nm63 := ⟨fun f hf => (but63 f (by omega)).trans ((but62 f (by omega)).trans (but61 f (by omega))), (but63 61 (by decide)).trans (but62 61 (by decide)), but63 62 (by decide), rfl⟩
theorem sm_any {P : Program} {ρ : Env} {s : Sm} (h : ∀ w, SmOk P ρ w (fun _ => False) s) (w0 : World) (M : Nat -> Prop) : SmOk P ρ w0 M s := fun ns hns => ⟨(h w0 ns hns).1, fun w _ => (h w ns hns).2 w (Kept.refl _ _)⟩
theorem na_any {ρ : Env} {fA : FuncId} (h : ρ.fn 39 = FN 39) (hk : ∀ (v : List Int) (w : World), SmOk Tryz.prog (envOf Rf.namesN v) w (fun _ => False) ⟨fA, 5, [i1], [i1]⟩) (w : World) (M : Nat -> Prop) : SmOk Tryz.prog ρ w M ⟨fA, 39, [i1], [i1]⟩ := sm_any (fun w ns hns => by
 have e : ρ.fn 39 = Rf.namesN 5 := by rw [h]; rfl
 have := hk [] w ns hns; show shFits [i1] (fnVals (ρ.fn 39) ns _ 0) /\ _; rw [show (⟨fA, 39, [i1], [i1]⟩ : Sm).name = 39 from rfl, e]; exact this) w M
def naA : Sm := ⟨121, 39, [i1], [i1]⟩
def sumsE : Sums := sumsOf [kA, insA, adA, naA]
theorem sumsE_ok {ρ : Env} (h : Mid ρ.fn) (w : World) (M : Nat -> Prop) : SumsOk Tryz.prog ρ w M sumsE := sumsOf_ok fun s hs => by
 simp only [mCo, List.not_mem_nil, or_false] at hs; rcases hs with rfl | rfl | rfl | rfl
 ·exact SmOk.congr (ρ := envOf nm61 []) (ρ' := ρ) (s := kA) (show ρ.fn 61 = nm61 61 from h.chk) (sm61 (envOf nm61 []) rfl w M)
 ·exact SmOk.congr (ρ := envOf nm62 []) (ρ' := ρ) (s := insA) (show ρ.fn 62 = nm62 62 from h.ins) (sm62 (envOf nm62 []) rfl w M)
 ·exact SmOk.congr (ρ := envOf nm63 []) (ρ' := ρ) (s := adA) (show ρ.fn 63 = nm63 63 from h.add) (sm63 (envOf nm63 []) rfl w M)
 ·exact na_any (fA := 121) (h.low 39 (by decide)) Rf.nanA_ok w M
def spE : SpcT := ofSpc (sumSpec sumsE)
def callE : Caller := callH Tryz.prog [] okF spE noKeep 80 30
theorem callE_ok {F : Mng} (h : Mid F) (ns : List Int) (w : World) (M : Nat -> Prop) : CallOk Tryz.prog (envOf F ns) w M [] callE :=
 callH_run mixed okF_ok (ofSpc_ok (sumSpec_ok (sumsE_ok (ρ := envOf F ns) h w M))) 30
def exSync : Meth := ⟨73, 64, [ptSh, i1], [i1], fun _ _ => true⟩
def exFoll : Meth := ⟨71, 65, [ptSh], [i1], fun _ _ => true⟩
def exReq : Meth := ⟨79, 66, [i1, i1], [i1], fun _ _ => true⟩
def exResp : Meth := ⟨81, 67, [ptSh, .one (.int .u64), i1], [i1], fun _ _ => true⟩
def exOff : Meth := ⟨42, 68, [], [i1, .one .bool], fun _ _ => true⟩
def exA : Fam := ⟨[⟨true, .cells [iV 0, bV 1, uV 2, iV 3, iV 4, iV 5, iV 6, bV 7, iV 8, iV 9, iV 10, bV 11, iV 12, iV 13, bV 14, iV 15] 118 0⟩], [], 16⟩
theorem exA_only {t : Nat} {a : Fam} (h : exK.fam t = some a) : a = exA := by
 have h : exFam t = some a := h; unfold exFam at h; split at h
 ·exact (sinj h).symm
 ·cases h
def AnyW (_ : World) : Prop := True
def nm64 : Mng := fun f => if f = 64 then methN exK nm63 callE exSync else nm63 f
theorem but64 : But 64 nm64 nm63 := fun f hf => if_neg hf
theorem mid64 : Mid nm64 := ⟨fun f hf => (but64 f (by omega)).trans (mid63.low f hf), (but64 61 (by decide)).trans mid63.chk, (but64 62 (by decide)).trans mid63.ins, (but64 63 (by decide)).trans mid63.add⟩
theorem good64 : exSync.good 0 [] exA (exSync.tree callE exA) = true := by kernel_rfl
theorem meth64 : MethOk Tryz.prog AnyW nm64 3 0 exSync :=
 meth_ok (K := exK) (G := nm63) (call := callE) (rs := fun _ => []) exK_ok but64 mid64.low (if_pos rfl) (fun ns w φ _ => callE_ok mid64 ns w φ) (fun _ _ _ hr => by cases hr) fun t a h => by rw [exA_only h]; exact good64
def nm65 : Mng := fun f => if f = 65 then methN exK nm64 callE exFoll else nm64 f
theorem but65 : But 65 nm65 nm64 := fun f hf => if_neg hf
theorem mid65 : Mid nm65 := ⟨fun f hf => (but65 f (by omega)).trans (mid64.low f hf), (but65 61 (by decide)).trans mid64.chk, (but65 62 (by decide)).trans mid64.ins, (but65 63 (by decide)).trans mid64.add⟩
theorem good65 : exFoll.good 0 [] exA (exFoll.tree callE exA) = true := by kernel_rfl
theorem meth65 : MethOk Tryz.prog AnyW nm65 3 0 exFoll :=
 meth_ok (K := exK) (G := nm64) (call := callE) (rs := fun _ => []) exK_ok but65 mid65.low (if_pos rfl) (fun ns w φ _ => callE_ok mid65 ns w φ) (fun _ _ _ hr => by cases hr) fun t a h => by rw [exA_only h]; exact good65
def nm66 : Mng := fun f => if f = 66 then methN exK nm65 callE exReq else nm65 f
theorem but66 : But 66 nm66 nm65 := fun f hf => if_neg hf
theorem mid66 : Mid nm66 := ⟨fun f hf => (but66 f (by omega)).trans (mid65.low f hf), (but66 61 (by decide)).trans mid65.chk, (but66 62 (by decide)).trans mid65.ins, (but66 63 (by decide)).trans mid65.add⟩
theorem good66 : exReq.good 0 [] exA (exReq.tree callE exA) = true := by kernel_rfl
theorem meth66 : MethOk Tryz.prog AnyW nm66 3 0 exReq :=
 meth_ok (K := exK) (G := nm65) (call := callE) (rs := fun _ => []) exK_ok but66 mid66.low (if_pos rfl) (fun ns w φ _ => callE_ok mid66 ns w φ) (fun _ _ _ hr => by cases hr) fun t a h => by rw [exA_only h]; exact good66
def nm67 : Mng := fun f => if f = 67 then methN exK nm66 callE exResp else nm66 f
theorem but67 : But 67 nm67 nm66 := fun f hf => if_neg hf
theorem mid67 : Mid nm67 := ⟨fun f hf => (but67 f (by omega)).trans (mid66.low f hf), (but67 61 (by decide)).trans mid66.chk, (but67 62 (by decide)).trans mid66.ins, (but67 63 (by decide)).trans mid66.add⟩
theorem good67 : exResp.good 0 [] exA (exResp.tree callE exA) = true := by kernel_rfl
theorem meth67 : MethOk Tryz.prog AnyW nm67 3 0 exResp :=
 meth_ok (K := exK) (G := nm66) (call := callE) (rs := fun _ => []) exK_ok but67 mid67.low (if_pos rfl) (fun ns w φ _ => callE_ok mid67 ns w φ) (fun _ _ _ hr => by cases hr) fun t a h => by rw [exA_only h]; exact good67
def nm68 : Mng := fun f => if f = 68 then methN exK nm67 callE exOff else nm67 f
theorem but68 : But 68 nm68 nm67 := fun f hf => if_neg hf
theorem mid68 : Mid nm68 := ⟨fun f hf => (but68 f (by omega)).trans (mid67.low f hf), (but68 61 (by decide)).trans mid67.chk, (but68 62 (by decide)).trans mid67.ins, (but68 63 (by decide)).trans mid67.add⟩
theorem good68 : exOff.good 0 [] exA (exOff.tree callE exA) = true := by kernel_rfl
theorem meth68 : MethOk Tryz.prog AnyW nm68 3 0 exOff :=
 meth_ok (K := exK) (G := nm67) (call := callE) (rs := fun _ => []) exK_ok but68 mid68.low (if_pos rfl) (fun ns w φ _ => callE_ok mid68 ns w φ) (fun _ _ _ hr => by cases hr) fun t a h => by rw [exA_only h]; exact good68
theorem calls_det {P : Program} {f : FuncId} {args : Array Value} {w : World} {v v' : Value} (hi : P.inits.idxOf? f = none) (h : Calls P f args w fun e _ => e = .returned v) (h' : Calls P f args w fun e _ => e = .returned v') : v = v' := by
 obtain ⟨e, w1, fr, he, hc, hfn, hl⟩ := h []; obtain ⟨e', w1', fr', he', hc', hfn', hl'⟩ := h' []; subst he; subst he'; obtain ⟨n, hn⟩ := (hc : Steps P _ _); obtain ⟨n', hn'⟩ := (hc' : Steps P _ _); have s := step_leave_done hl (by rw [hfn]; exact hi)
 have s' := step_leave_done hl' (by rw [hfn']; exact hi)
 have r : runN P (n + 1) (lone (Frame.enter P f args .normal) [] w) = .ended (.done v) w1 := by
  rw [runN_add, hn]; show (match step P _ with | .next m' => runN P 0 m' | e => e) = _
  rw [s]
 have r' : runN P (n' + 1) (lone (Frame.enter P f args .normal) [] w) = .ended (.done v') w1' := by
  rw [runN_add, hn']; show (match step P _ with | .next m' => runN P 0 m' | e => e) = _
  rw [s']
 have := runN_same_end r r'
 simpa using this
theorem sm_turn {P : Program} {ρ1 ρ2 : Env} {w0 : World} {M : Nat -> Prop} {fA fB a b : Nat} {ps rs : List Sh} (hi : P.inits.idxOf? fA = none) (hA1 : SmOk P ρ1 w0 M ⟨fA, a, ps, rs⟩) (hB1 : SmOk P ρ1 w0 M ⟨fB, a, ps, rs⟩) (hA2 : SmOk P ρ2 w0 M ⟨fA, b, ps, rs⟩) : SmOk P ρ2 w0 M ⟨fB, b, ps, rs⟩ := fun ns hns => by
 obtain ⟨f2, c2⟩ := hA2 ns hns; obtain ⟨_, c1⟩ := hA1 ns hns; obtain ⟨_, d1⟩ := hB1 ns hns; have e := calls_det hi ((c1 w0 (Kept.refl _ _)).mono fun _ _ h => h.1) ((c2 w0 (Kept.refl _ _)).mono fun _ _ h => h.1)
 exact ⟨f2, fun w hw => (d1 w hw).mono fun e' w' ⟨he, hb⟩ => ⟨by rw [he]; exact congrArg Ending.returned e, hb⟩⟩
def kR : Sm := ⟨75, 61, [ptSh], [i1]⟩
def insR : Sm := ⟨116, 62, [stSh], insRs⟩
def adR : Sm := ⟨119, 63, [i1, i1], insRs⟩
theorem kR_ok {ρ : Env} (h : ρ.fn 61 = nm61 61) (w : World) : SmOk Tryz.prog ρ w (fun _ => False) kR :=
 SmOk.congr (ρ := envOf nm61 []) (ρ' := ρ) (s := kR) h (sm_turn (fA := 70) (a := 2) (by kernel_rfl) (Rf.kA_ok (envOf Rf.namesK []) rfl w) (Rf.kB_ok (envOf Rf.namesK []) rfl w) (sm61 (envOf nm61 []) rfl w _))
theorem insR_ok {ρ : Env} (h : ρ.fn 62 = nm62 62) (w : World) : SmOk Tryz.prog ρ w (fun _ => False) insR :=
 SmOk.congr (ρ := envOf nm62 []) (ρ' := ρ) (s := insR) h (sm_turn (fA := 103) (a := 3) (by kernel_rfl) (Rf.insA3_ok [] w) (Rf.insB3_ok [] w) (sm62 (envOf nm62 []) rfl w _))
theorem adR_ok {ρ : Env} (h : ρ.fn 63 = nm63 63) (w : World) : SmOk Tryz.prog ρ w (fun _ => False) adR :=
 SmOk.congr (ρ := envOf nm63 []) (ρ' := ρ) (s := adR) h (sm_turn (fA := 107) (a := 4) (by kernel_rfl) (Rf.adA4_ok [] w) (Rf.adB4_ok [] w) (sm63 (envOf nm63 []) rfl w _))
def naR : Sm := ⟨118, 39, [i1], [i1]⟩
def sumsRE : Sums := sumsOf [kR, insR, adR, naR]
def spRE : SpcT := ofSpc (sumSpec sumsRE)
def callRE : Caller := callH Tryz.prog [] okF spRE noKeep 80 30
theorem sumsRE_any {ρ : Env} (h : Mid ρ.fn) (w : World) (M : Nat -> Prop) : SumsOk Tryz.prog ρ w M sumsRE := sumsOf_ok fun s hs => by
 simp only [mCo, List.not_mem_nil, or_false] at hs; rcases hs with rfl | rfl | rfl | rfl
 ·exact sm_any (kR_ok h.chk) w M
 ·exact sm_any (insR_ok h.ins) w M
 ·exact sm_any (adR_ok h.add) w M
 ·exact na_any (fA := 118) (h.low 39 (by decide)) Rf.nanB_ok w M
theorem callRE_ok {F : Mng} (h : Mid F) (ns : List Int) (w : World) (M : Nat -> Prop) : CallOk Tryz.prog (envOf F ns) w M [] callRE :=
 callH_run mixed okF_ok (ofSpc_ok (sumSpec_ok (sumsRE_any (ρ := envOf F ns) h w M))) 30
def exAR : Fam := ⟨[⟨true, .cells [iV 0, bV 1, iV 2, iV 3, iV 4, iV 5, uV 6, iV 7, iV 8, iV 9, iV 10, iV 11, uV 12, iV 13, iV 14, iV 15, iV 16, iV 17, iV 18, iV 19, uV 20, iV 21, iV 22, iV 23, bV 24, iV 25, bV 26, iV 27, iV 28, bV 29, iV 30] 123 0⟩], [], 31⟩
def rxSync : Meth := ⟨76, 64, [ptSh, i1], [i1], fun _ _ => true⟩
def rxFoll : Meth := ⟨77, 65, [ptSh], [i1], fun _ _ => true⟩
def rxReq : Meth := ⟨80, 66, [i1, i1], [i1], fun _ _ => true⟩
def rxResp : Meth := ⟨82, 67, [ptSh, .one (.int .u64), i1], [i1], fun _ _ => true⟩
def rxOff : Meth := ⟨44, 68, [], [i1, .one .bool], fun _ _ => true⟩
theorem RelOk.turn {A : Rel} (hA : A.ok 0 = true) {F G : Mng} {ns ms js : List Int} (h : RelOk A F ns ms js) : RelOk A G ns ms js := by
 simp only [Rel.ok, bAnd] at hA; have ag : Agr (prN A) 0 (envP F ns js) (envP G ns js) := ⟨fun _ _ => rfl, fun f hf => absurd hf (by omega)⟩
 exact ⟨h.len, by rw [h.nums, evs_inP ag _ hA.1.2], facts_inP ag hA.2 h.facts⟩
def exK0 : Rel := { exJ0 with F := [(eq0 (.var 1) (.lit 0), true)] }
def exK1 : Rel := { exJ1 with F := [(eq0 (.var 1) (.lit 0), false)] }
def exKs : List Rel := [exK0, exK1]
theorem exKs_iff {F : Mng} {ns ms js : List Int} : (∃ A ∈ exJs, RelOk A F ns ms js) ↔ ∃ A ∈ exKs, RelOk A F ns ms js := by
 have e : (eq0 (.var 1) (.lit 0)).ev (envP F ns js) ≠ 0 ↔ ns.getD 1 0 = 0 := eqk_ev (ρ := envP F ns js) .i64 (.var 1) (.lit 0); have v : (E.var 1).ev (envP F ns js) = ns.getD 1 0 := rfl
 have a0 : SX.FsOk (envP F ns js) exJ0.F ↔ SX.FsOk (envP F ns js) exK0.F := by
  rw [show exJ0.F = [(.var 1, false)] from rfl, show exK0.F = [(eq0 (.var 1) (.lit 0), true)] from rfl, fsOk_cons, fsOk_cons, e, v]; simp
 have a1 : SX.FsOk (envP F ns js) exJ1.F ↔ SX.FsOk (envP F ns js) exK1.F := by
  rw [show exJ1.F = [(.var 1, true)] from rfl, show exK1.F = [(eq0 (.var 1) (.lit 0), false)] from rfl, fsOk_cons, fsOk_cons, e, v]; simp
 simp only [exJs, exKs, mCo, List.not_mem_nil, or_false]; constructor
 ·rintro ⟨A, rfl | rfl, h⟩
  ·exact ⟨exK0, .inl rfl, h.len, h.nums, a0.1 h.facts⟩
  ·exact ⟨exK1, .inr rfl, h.len, h.nums, a1.1 h.facts⟩
 ·rintro ⟨A, rfl | rfl, h⟩
  ·exact ⟨exJ0, .inl rfl, h.len, h.nums, a0.2 h.facts⟩
  ·exact ⟨exJ1, .inr rfl, h.len, h.nums, a1.2 h.facts⟩
theorem exKs_all : (exKs.all fun A => A.ok 0 && A.ok 64 && Nat.beq A.nv 16 && Nat.beq A.L.length 31) = true := by decide
theorem rx_ok {F G : Mng} {m m' : Meth} {call : Caller} (hn : m'.name = m.name) (hps : m'.ps = m.ps) (hrs : m'.rs = m.rs) (hnp : 16 + shSize m.ps <= 100) (hB : But m.name F G) (h64 : 64 <= m.name) (hmid : Mid F) (hF : F m.name = methN exK G call m)
  (hg : m.good 0 [] exA (m.tree call exA) = true) (hg' : m'.good 0 [] exAR (m'.tree callRE exAR) = true) (hJ : (exKs.all fun A => jointB A exKs 64 (shSize m.ps) exA exAR m.rs [] (m'.tree callRE exAR) (m.tree call exA)) = true) : MethOk Tryz.prog AnyW F 4 0 m' := fun X xs b φ w hxs hob hI => by
 have hob : ∃ X0 Y, [X] = [X0] /\ ExRel X0 Y /\ TOb Ob1 FN exFamR codL [Y] b φ w := hob; obtain ⟨X0, Y, e0, ⟨ns, ms, js, rfl, rfl, hA0⟩, hlay⟩ := hob; obtain ⟨A, hA, hR⟩ := exKs_iff.1 hA0; obtain rfl : X = codL (((0 : Nat) : Int) :: ns) := by simpa using e0
 obtain ⟨t, ms', a, β, ψ, e, hfam, hlen, rfl, hfs, hl, hφ⟩ := hlay; have e := codL_inj (List.cons.inj e).1; obtain ⟨et, rfl⟩ := List.cons.inj e; obtain rfl : t = 0 := by omega
 obtain rfl : a = exAR := (sinj hfam).symm; obtain rfl : φ = blksT exAR.bs β ψ := funext fun i => propext (hφ i)
 obtain ⟨o', es', p1', he', e1', e2', _, hrun⟩ := meth_run (P := Tryz.prog) (G0 := FN) (O := Ob1) (m := m') (a := exAR) (rs := []) (kp := 0) (call := callRE) (F := F) (G := G) (exFamR_ok 0 _ rfl) (fun k x q es hk e => by
  match k, hk with
  | 0, hk => obtain rfl := sinj hk; cases e
  | k + 1, hk => cases hk) hmid.low (by rw [hn]; exact hB) hlen hfs hl (callRE_ok hmid _ w _) hxs (fun r hr => by cases hr) hg'
 obtain ⟨o, p1, _, _⟩ := Meth.pick_good (m := m) (a := exA) hB (ns ++ xs) hg; have hAll := lAl.1 exKs_all; have hAok := hAll A hA; simp only [bAnd, beq_iff, dEq] at hAok; obtain ⟨⟨⟨a0, a64⟩, anv⟩, aL⟩ := hAok; have hG : ∀ f, f < 64 -> G f = F f := fun f hf => (hB f (by omega)).symm
 obtain ⟨es, es2, js', h1, h2, h3, A2, hA2, hR2⟩ := joint_at (A := A) (outs := exKs) (m := 64) (np := shSize m.ps) (a := exA) (a' := exAR) (rs := m.rs) (ex := []) (F := F) (G := G) (G' := G) (xs := xs) a64 (by rw [anv]; exact hnp) (by rw [anv]; rfl) (by rw [aL]; rfl) hG hG (hR.turn a0) (fun _ h => by cases h) (lAl.1 hJ A hA) p1 p1'
 rw [hrs] at he'; obtain rfl : es' = es2 := sinj (he'.symm.trans h2)
 have hval : fnVals (F m.name) (codL (((0 : Nat) : Int) :: ns) :: xs) (shSize m.rs) 1 = E.evs (envOf F (ms ++ xs)) es' := by
  rw [e1', h3]
  have hl2 : (E.evs (envOf G (ns ++ xs)) es).length = shSize m.rs := by
   rw [evs_len]; unfold leafE at h1; split at h1
   ·exact shTakes_len h1
   ·cases h1
  rw [<- hl2]; refine fnVals_getD _ _ _ 1 fun i => ?_
  rw [hF, methN_at (K := exK) (a := exA) rfl]; unfold methV; simp only [p1, h1, if_neg (show 1 + i ≠ 0 by omega), Nat.add_sub_cancel_left]
 have hobj : F m.name 0 (codL (((0 : Nat) : Int) :: ns) :: xs) = codL (((0 : Nat) : Int) :: famNs exA o (envOf G (ns ++ xs))) := by
  rw [hF, methN_at (K := exK) (a := exA) rfl]; unfold methV; simp only [p1, if_true]
 rw [hn, hrs, hval, hobj]; rw [hrs] at hrun; have hA2ok := hAll A2 hA2; simp only [bAnd] at hA2ok; refine ⟨calls_some hrun fun _ _ h => h.2.1, ⟨0, ns, _, rfl, rfl, fun i hi => absurd hi (by omega)⟩, hrun.mono fun e w' ⟨h1, h2, β', ψ', k1, k2, k3, k4, k5⟩ => ⟨h1, blksT exAR.bs β' ψ', ?_, k4, k5⟩⟩
 show ∃ X0 Y, [codL (((0 : Nat) : Int) :: famNs exA o (envOf G (ns ++ xs)))] = [X0] /\ ExRel X0 Y /\ TOb Ob1 FN exFamR codL [Y] (β 0).1 _ w'; refine ⟨_, _, rfl, ⟨_, _, js', rfl, rfl, exKs_iff.2 ⟨A2, hA2, hR2.turn hA2ok.1.1.1⟩⟩, 0, famNs exAR o' (envOf F (ms ++ xs)), exAR, β', ψ', by rw [e2'], rfl, by simp [famNs], k1, k2, k3, fun i => Iff.rfl⟩
theorem good64R : rxSync.good 0 [] exAR (rxSync.tree callRE exAR) = true := by kernel_rfl
theorem joint64 : (exKs.all fun A => jointB A exKs 64 22 exA exAR exSync.rs [] (rxSync.tree callRE exAR) (exSync.tree callE exA)) = true := by kernel_rfl
theorem meth64R : MethOk Tryz.prog AnyW nm64 4 0 rxSync := rx_ok (m := exSync) (G := nm63) (call := callE) rfl rfl rfl (by decide) but64 (by decide) mid64 (if_pos rfl) good64 good64R joint64
theorem good65R : rxFoll.good 0 [] exAR (rxFoll.tree callRE exAR) = true := by kernel_rfl
theorem joint65 : (exKs.all fun A => jointB A exKs 64 21 exA exAR exFoll.rs [] (rxFoll.tree callRE exAR) (exFoll.tree callE exA)) = true := by kernel_rfl
theorem meth65R : MethOk Tryz.prog AnyW nm65 4 0 rxFoll := rx_ok (m := exFoll) (G := nm64) (call := callE) rfl rfl rfl (by decide) but65 (by decide) mid65 (if_pos rfl) good65 good65R joint65
theorem good66R : rxReq.good 0 [] exAR (rxReq.tree callRE exAR) = true := by kernel_rfl
theorem joint66 : (exKs.all fun A => jointB A exKs 64 2 exA exAR exReq.rs [] (rxReq.tree callRE exAR) (exReq.tree callE exA)) = true := by kernel_rfl
theorem meth66R : MethOk Tryz.prog AnyW nm66 4 0 rxReq := rx_ok (m := exReq) (G := nm65) (call := callE) rfl rfl rfl (by decide) but66 (by decide) mid66 (if_pos rfl) good66 good66R joint66
theorem good67R : rxResp.good 0 [] exAR (rxResp.tree callRE exAR) = true := by kernel_rfl
theorem joint67 : (exKs.all fun A => jointB A exKs 64 23 exA exAR exResp.rs [] (rxResp.tree callRE exAR) (exResp.tree callE exA)) = true := by kernel_rfl
theorem meth67R : MethOk Tryz.prog AnyW nm67 4 0 rxResp := rx_ok (m := exResp) (G := nm66) (call := callE) rfl rfl rfl (by decide) but67 (by decide) mid67 (if_pos rfl) good67 good67R joint67
theorem good68R : rxOff.good 0 [] exAR (rxOff.tree callRE exAR) = true := by kernel_rfl
theorem joint68 : (exKs.all fun A => jointB A exKs 64 0 exA exAR exOff.rs [] (rxOff.tree callRE exAR) (exOff.tree callE exA)) = true := by kernel_rfl
theorem meth68R : MethOk Tryz.prog AnyW nm68 4 0 rxOff := rx_ok (m := exOff) (G := nm67) (call := callE) rfl rfl rfl (by decide) but68 (by decide) mid68 (if_pos rfl) good68 good68R joint68
def objQ (c : Bx) : Bool := match c with
 | .obj q _ => Nat.beq q 1 || Nat.beq q 3
 | _ => true
theorem clFam_objs : ((List.range 9).all fun n => (clFam n).all fun a => a.bs.all fun x => objQ x.c) = true := by kernel_rfl
theorem clK_ok : KindOk clK := ⟨fun vs b φ w => Iff.rfl, clFam_ok, fun t a h k x q es hk e vs b φ w => by
 have h : clFam t = some a := h
 have ht : 1 <= t /\ t <= 8 := by
  by_cases c : 1 <= t /\ t <= 8
  ·exact c
  ·unfold clFam at h; rw [if_neg c] at h; cases h
 have h1 := lAl.1 clFam_objs t (mRa.2 (by omega))
 rw [h] at h1; have h2 := lAl.1 (show (a.bs.all fun x => objQ x.c) = true from h1) x (List.mem_of_getElem? hk)
 rw [e] at h2; simp only [objQ, bOr, beq_iff, dEq] at h2; show Ob3 q vs b φ w ↔ Ob q vs b φ w; unfold Ob; rw [if_neg (by omega), if_neg (by omega)]⟩
end
end Go.Proofs.YtfcpmapfhgibpaaGreatDoor
