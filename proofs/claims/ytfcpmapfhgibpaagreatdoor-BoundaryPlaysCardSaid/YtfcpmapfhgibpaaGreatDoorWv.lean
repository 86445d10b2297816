/- The rules are right; State and Parent. -/
import Derived.Test.YtfcpmapfhgibpaaGreatDoorWu
import Derived.Test.YtfcpmapfhgibpaaGreatDoorWl
import Derived.Test.YtfcpmapfhgibpaaGreatDoorWo
import Derived.Test.YtfcpmapfhgibpaaGreatDoorWt
set_option linter.unusedVariables false
set_option linter.unusedSimpArgs false
set_option maxRecDepth 1000000
namespace Go.Proofs.YtfcpmapfhgibpaaGreatDoor
noncomputable section
open Go Go.RowKit SX Frm Frn
section
variable {ρ : Env}
theorem range_evs (n : Nat) (f : Nat -> E) : E.evs ρ ((List.range n).map f) = (List.range n).map fun i => (f i).ev ρ := by
 rw [SX.evs_map', List.map_map]; rfl
theorem getD_range {n i : Nat} (h : i < n) (f : Nat -> Int) : ((List.range n).map f).getD i 0 = f i := by
 rw [gDe, lMp, lRa h]; rfl
theorem oneF_ok {e : E} : SX.FsOk ρ [oneF e] ↔ e.ev ρ = 1 := by
 rw [fsOk_one]; show ((eq0 e (.lit 1)).ev ρ ≠ 0 ↔ true = true) ↔ _; rw [eq0_ev]; exact ⟨fun h => h.2 rfl, fun h => ⟨fun _ => rfl, fun _ => h⟩⟩
theorem oneF_cons {e : E} {l : Fs} : SX.FsOk ρ (oneF e :: l) ↔ e.ev ρ = 1 /\ SX.FsOk ρ l := by
 rw [fsOk_cons, <- fsOk_one, show (oneF e).1 = (oneF e).1 from rfl]; exact and_congr_left fun _ => oneF_ok
theorem wellE_ev (hl : Low ρ.fn) (x : E) : (wellE x).ev ρ ≠ 0 ↔ WellS (dec (x.ev ρ)) (ρ.v 0) := by
 unfold wellE; rw [eq0_ev, <- wellN_iff]; show ρ.fn 57 0 [x.ev ρ, ρ.v 0] = 1 ↔ _; rw [hl 57 (by decide)]
 exact Iff.rfl
theorem wellF_cons (hl : Low ρ.fn) {x : E} {l : Fs} : SX.FsOk ρ ((wellE x, true) :: l) ↔ WellS (dec (x.ev ρ)) (ρ.v 0) /\ SX.FsOk ρ l := by
 rw [fsOk_cons, wellE_ev hl]; exact and_congr_left fun _ => ⟨fun h => h.2 rfl, fun h => ⟨fun _ => rfl, fun _ => h⟩⟩
theorem eqF_cons {a b : E} {l : Fs} : SX.FsOk ρ ((eq0 a b, true) :: l) ↔ a.ev ρ = b.ev ρ /\ SX.FsOk ρ l := by
 rw [fsOk_cons, eq0_ev]; exact and_congr_left fun _ => ⟨fun h => h.2 rfl, fun h => ⟨fun _ => rfl, fun _ => h⟩⟩
theorem sts_ev (hl : Low ρ.fn) (l : List E) : (E.app 59 0 l).ev ρ = 1 ↔ StsOk (E.evs ρ l) := by
 show ρ.fn 59 0 _ = 1 ↔ _; rw [hl 59 (by decide)]
 exact stsN_iff
theorem rngPs_ok : ∀ {ks : List IntKind} {v : Nat}, SX.FsOk ρ (rngPs ks v) -> ∀ (j : Nat) (k : IntKind), ks[j]? = some k -> (Lit.int k (ρ.v (v + j))).wf = true
 | [], v, _, j, k, h => by simp at h
 | k0 :: ks, v, hf, j, k, h => by
  simp only [rngPs] at hf; rw [fsOk_cons] at hf; cases j with
  | zero =>
   obtain rfl := sinj h; have := hf.1.2 rfl; refine (wf_iff k0 _).2 ?_; have h2 : (if k0.min <= ρ.v v /\ ρ.v v <= k0.max then (1 : Int) else 0) ≠ 0 := this
   split at h2
   ·rename_i h3; exact h3
   ·exact absurd rfl h2
  | succ j =>
   have := rngPs_ok (v := v + 1) hf.2 j k h; rwa [show v + 1 + j = v + (j + 1) by omega] at this
theorem hearRu_ok (hl : Low ρ.fn) (h74 : ρ.fn 74 = nm74 74) (v t : Nat) {i : Nat} (hi : i < 8) : RuleOk ρ (hearRu v t i) := fun hp => by
 obtain ⟨_, hp⟩ := eqF_cons.1 hp; obtain ⟨herr, hp⟩ := eqF_cons.1 hp; rw [fsOk_cons] at hp; obtain ⟨hgm, hp⟩ := hp; obtain ⟨hw, hp⟩ := (wellF_cons hl).1 hp
 have hr0 : (Lit.int .u64 (ρ.v 0)).wf = true := rngPs_ok (ks := [.u64]) (v := 0) (fun p hq => by
  obtain rfl : p = rngP .u64 0 := by simpa [rngPs] using hq
  exact hp _ (lHd ..)) 0 .u64 rfl
 have hrs := rngPs_ok (ks := msgKs) (v := v) fun p hq => hp p (lTl _ hq)
 -- the arguments of Of
 let ns : List Int := E.evs ρ (ofL v i)
 have hnv : ∀ j, j < 21 -> ns.getD j 0 = ρ.v (v + j) := fun j hj => by
  show (E.evs ρ (ofL v i)).getD j 0 = _; rw [evs_getD, ofL, gDe, lAp (by simp; omega), lMp, lRa hj]
  rfl
 have hns : shFits ofA.ps ns := by
  refine ⟨(fits_getD _ _).2 fun j l hj => ?_, ?_, ?_, trivial⟩
  ·have hj21 : j < 21 := (lSo.1 hj).1
   rw [hnv j hj21]; have hk : (msgKs.map Lk.int)[j]? = some l := hj; rw [lMp] at hk; obtain ⟨k, h1, rfl⟩ := Option.map_eq_some_iff.1 hk; exact hrs j k h1
  ·exact hr0
  ·show (Lit.int .i64 ((i + 1 : Nat) : Int)).wf = true
   exact wfI (by omega)
 have happ : ∀ j, (E.app 74 j (ofL v i)).ev ρ = nm74 74 j ns := fun j => by
  show ρ.fn 74 j _ = _; rw [h74]
 rw [happ] at herr; have hann := of_ann hns herr; have hv : ∀ j, (E.var j).ev (envOf nm74 ns) = ns.getD j 0 := fun _ => rfl
 -- the data set that is heard
 have hD : ∀ k, k < 21 -> (E.var k).ev (envOf nm74 ns) = ρ.v (v + k) := fun k hk => hnv k hk
 have rng : ∀ (lo hi' : Int) (e : E), SX.FsOk (envOf nm74 ns) (rngF lo hi' e) -> lo <= e.ev (envOf nm74 ns) /\ e.ev (envOf nm74 ns) <= hi' := fun lo hi' e hf => by
  rw [rngF, fsOk_cons, fsOk_cons, lt0_ev, lt0_ev] at hf; have h1 : ¬ e.ev (envOf nm74 ns) < lo := fun c => Bool.noConfusion (hf.1.1 c)
  have h2 : ¬ hi' < e.ev (envOf nm74 ns) := fun c => Bool.noConfusion (hf.2.1.1 c)
  omega
 unfold annF at hann; simp only [fsOk_apps] at hann; obtain ⟨⟨⟨⟨⟨r0, r1⟩, r2⟩, r3⟩, r4⟩, r6⟩ := hann
 have hWD : WellD (E.evs ρ (ofD v i)) (ρ.v 0) := by
  refine ⟨?_, ?_, ?_, ?_, ?_, ?_, ?_⟩
  ·rw [show (E.evs ρ (ofD v i)).getD 0 0 = ρ.v (v + 13) from rfl, <- hD 13 (by decide)]; exact rng _ _ _ r0
  ·rw [show (E.evs ρ (ofD v i)).getD 1 0 = ρ.v (v + 14) from rfl, <- hD 14 (by decide)]; exact rng _ _ _ r1
  ·rw [show (E.evs ρ (ofD v i)).getD 2 0 = ρ.v (v + 15) from rfl, <- hD 15 (by decide)]; exact rng _ _ _ r2
  ·rw [show (E.evs ρ (ofD v i)).getD 3 0 = ρ.v (v + 16) from rfl, <- hD 16 (by decide)]; exact rng _ _ _ r3
  ·rw [show (E.evs ρ (ofD v i)).getD 4 0 = ρ.v (v + 17) from rfl, <- hD 17 (by decide)]; exact rng _ _ _ r4
  ·intro e
   have e : ρ.v (v + 18) = ρ.v 0 := e; exact Bool.noConfusion (hgm.1 ((eqk_ev (ρ := ρ) .u64 (.var (v + 18)) (.var 0)).2 e))
  ·rw [show (E.evs ρ (ofD v i)).getD 6 0 = ρ.v (v + 19) from rfl, <- hD 19 (by decide)]; exact rng _ _ _ r6
 refine (wellF_cons hl).2 ⟨?_, fun _ h => by cases h⟩
 rw [hearE_ev hl (d := ofD v i) (by simp [ofD]), dec_code]
 exact hear_well hw hWD
theorem rulesAnn_ok (hl : Low ρ.fn) (h74 : ρ.fn 74 = nm74 74) {n : Nat} (hn : n <= 8) : ∀ r ∈ rulesAnn n, RuleOk ρ r := fun r hr => by
 obtain ⟨i, hi, rfl⟩ := List.mem_map.1 hr; exact hearRu_ok hl h74 _ _ (by have := mRa.1 hi; omega)
theorem syncRu_ok (hl : Low ρ.fn) (h69 : ρ.fn 69 = nm69 69) {n k i : Nat} (hk : k = 8 \/ k = 9) (hi : i < n) : RuleOk ρ (syncRu n k i) := fun hp => by
 obtain ⟨hs, hp⟩ := oneF_cons.1 hp; obtain ⟨hst, _⟩ := eqF_cons.1 hp; rw [stsE, sts_ev hl, range_evs] at hs; refine oneF_ok.2 ((sts_ev hl _).2 ?_); rw [range_evs]; have hv : ρ.v (stV i 0) = (k : Int) := hst
 have hnx : (nextE (litN k) (.lit 9) (.lit 0)).ev ρ = 9 := by
  rw [nextE_ev h69]; show PortLaw.nxt (k : Int) 9 (decide ((0 : Int) ≠ 0)) = 9; rcases hk with rfl | rfl <;> decide
 refine sts_sync (i := i) hs (by simpa using hi) ?_ (by simp) ?_ fun j hj hji => ?_
 ·rw [getD_range hi]
  show 7 < ρ.v (stV i 0); rw [hv]; omega
 ·rw [getD_range hi, show Nat.beq i i = true by rw [beq_iff]; simp]
  exact hnx
 ·have hj : j < n := by simpa using hj
  rw [getD_range hj, getD_range hj, show Nat.beq j i = false by rw [beq_iff]; simpa using hji]
  rfl
theorem rulesSync_ok (hl : Low ρ.fn) (h69 : ρ.fn 69 = nm69 69) (n : Nat) : ∀ r ∈ rulesSync n, RuleOk ρ r := fun r hr => by
 obtain ⟨i, hi, hr⟩ := List.mem_flatMap.1 hr; have hi := mRa.1 hi; simp only [mCo, List.not_mem_nil, or_false] at hr; rcases hr with rfl | rfl
 ·exact syncRu_ok hl h69 (.inl rfl) hi
 ·exact syncRu_ok hl h69 (.inr rfl) hi
theorem forgRu_ok (hl : Low ρ.fn) (t i : Nat) : RuleOk ρ (forgRu t i) := fun hp => by
 have hp : SX.FsOk ρ ((lt0 (.var t) (.var 22), false) :: [(wellE (recV i), true)]) := hp; rw [fsOk_cons] at hp; obtain ⟨hw, _⟩ := (wellF_cons hl).1 hp.2; refine (wellF_cons hl).2 ⟨?_, fun _ h => by cases h⟩
 rw [forgV, forgE_ev hl, dec_code]; exact forget_well hw
theorem forgV_evs (n t : Nat) : E.evs ρ ((List.range n).map (forgV t)) = (List.range n).map fun i => (forgV t i).ev ρ := range_evs n (forgV t)
theorem followRu_ok (hl : Low ρ.fn) (h72 : ρ.fn 72 = msI) (n t : Nat) : RuleOk ρ (followRu n t) := fun hp => by
 have hws : ∀ i, i < n -> WellS (dec ((forgV t i).ev ρ)) (ρ.v 0) := fun i hi => by
  have := hp (wellE (forgV t i), true) (List.mem_map.2 ⟨i, mRa.2 hi, rfl⟩); exact (wellE_ev hl _).1 (this.2 rfl)
 have hM := mastX_ok (q := E.evs ρ mstQ) (t := ρ.v t) (xs := E.evs ρ ((List.range n).map (forgV t))) fun i hi => by
  rw [evs_len] at hi; have hi : i < n := by simpa using hi
  rw [forgV_evs, getD_range hi]; exact hws i hi
 refine oneF_ok.2 ?_; show ρ.fn 58 0 _ = 1; rw [hl 58 (by decide), evs_app, range_evs]
 show followN _ _ = 1; have h6 : (E.evs ρ mstQ).length = 6 := by rw [evs_len]; rfl
 rw [List.take_append_of_le_length (by omega), List.take_of_length_le (by omega), List.drop_append, h6, List.drop_of_length_le (by omega), List.nil_append, Nat.sub_self, List.drop_zero]
 have hms : ∀ j, (msE j (decLx n t)).ev ρ = (mastX (E.evs ρ mstQ) (ρ.v t) (E.evs ρ ((List.range n).map (forgV t)))).getD j 0 := fun j => msE_ev h72 j rfl _ _
 simp only [hms]; generalize mastX (E.evs ρ mstQ) (ρ.v t) (E.evs ρ ((List.range n).map (forgV t))) = d at hM; have hg : ∀ j, j < 11 -> ((List.range 11).map fun j => d.getD j 0).getD j 0 = d.getD j 0 := fun j hj => getD_range hj _
 rw [followN_iff] at hM ⊢; rcases hM with hM | ⟨hM, hM2⟩
 ·subst hM
  exact .inl rfl
 ·refine .inr ⟨⟨?_, ?_, ?_, ?_, ?_, ?_, ?_⟩, ?_⟩
  ·rw [hg 0 (by decide)]; exact hM.p1
  ·rw [hg 1 (by decide)]; exact hM.cls
  ·rw [hg 2 (by decide)]; exact hM.acc
  ·rw [hg 3 (by decide)]; exact hM.vr
  ·rw [hg 4 (by decide)]; exact hM.p2
  ·rw [hg 5 (by decide)]; exact hM.gm
  ·rw [hg 6 (by decide)]; exact hM.steps
  ·unfold ltB at hM2 ⊢
   rw [dsOf_getD (List.map _ _), hg 0 (by decide), hg 1 (by decide), hg 2 (by decide), hg 3 (by decide), hg 4 (by decide), hg 5 (by decide), hg 6 (by decide), hg 7 (by decide), hg 8 (by decide), hg 9 (by decide), hg 10 (by decide), <- dsOf_getD]
   exact hM2
theorem stsRu_ok (hl : Low ρ.fn) (h70 : ρ.fn 70 = decI) (h71 : ρ.fn 71 = cdI) (n t : Nat) (p : Fs) (s : E) : RuleOk ρ (stsRu n t p s) := fun hp => by
 have hs := oneF_ok.1 (fsOk_apps.1 hp).2; rw [stsE, sts_ev hl, range_evs] at hs; refine oneF_ok.2 ((sts_ev hl _).2 ?_); rw [range_evs]; have hlx : (E.evs ρ ((List.range n).map (forgV t))).length = n := by rw [evs_len]; simp
 have hcd : ∀ i, (cdE i (decLx n t)).ev ρ = codeX (E.evs ρ mstQ) (ρ.v t) (E.evs ρ ((List.range n).map (forgV t))) i := fun i => cdE_ev h71 i rfl _ _
 have key := sts_dec (l := (List.range n).map fun i => (E.var (stV i 0)).ev ρ) (cs := (List.range n).map fun i => (cdE i (decLx n t)).ev ρ)
  (f := fun i => (decE 1 [.var (stV i 0), .var (stV i 3), cdE i (decLx n t), bokE (forgV t i) (.var t), s, .var t, .var 10]).ev ρ) hs
  (fun i hi => by
   have hi : i < n := by simpa using hi
   rw [getD_range hi, hcd]; exact codeX_rng _ _ _ _)
  (fun i j hi hj hij h6 => by
   have hi : i < n := by simpa using hi
   have hj : j < n := by simpa using hj
   rw [getD_range hi, hcd] at h6; rw [getD_range hj, hcd]; exact codeX_two (by rw [hlx]; exact hi) (by rw [hlx]; exact hj) hij h6)
  (fun i hi => by
   have hi : i < n := by simpa using hi
   rw [getD_range hi, getD_range hi]; exact ⟨_, _, _, _, _, decE_ev h70 1 _⟩)
 simpa using key
theorem rulesDec_ok (hl : Low ρ.fn) (h70 : ρ.fn 70 = decI) (h71 : ρ.fn 71 = cdI) (h72 : ρ.fn 72 = msI) (n : Nat) : ∀ r ∈ rulesDec n, RuleOk ρ r := fun r hr => by
 rcases List.mem_append.1 hr with hr | hr
 ·obtain ⟨i, hi, rfl⟩ := List.mem_map.1 hr
  exact forgRu_ok hl _ _
 ·simp only [mCo, List.not_mem_nil, or_false] at hr
  rcases hr with rfl | rfl | rfl | rfl
  ·exact followRu_ok hl h72 n _
  ·exact stsRu_ok hl h70 h71 n _ _ _
  ·exact stsRu_ok hl h70 h71 n _ _ _
  ·exact stsRu_ok hl h70 h71 n _ _ _
end
structure Hi (F : Mng) : Prop where
 mid : Mid F
 e64 : F 64 = nm64 64
 e65 : F 65 = nm65 65
 e66 : F 66 = nm66 66
 e67 : F 67 = nm67 67
 e68 : F 68 = nm68 68
 nx : F 69 = nm69 69
 dc : F 70 = decI
 cd : F 71 = cdI
 ms : F 72 = msI
 en : F 73 = nmE
 df : F 74 = nm74 74
theorem hi72 : Hi nm72 := by
 have b : ∀ f, f ≠ 72 -> nm72 f = nm71 f := but72; have b1 : ∀ f, f ≠ 71 -> nm71 f = nm74 f := but71; have b4 : ∀ f, f ≠ 74 -> nm74 f = nm73 f := but74; have b3 : ∀ f, f ≠ 73 -> nm73 f = nm70 f := but73; have b0 : ∀ f, f ≠ 70 -> nm70 f = nm69 f := but70; have d : ∀ f, f < 70 -> nm72 f = nm69 f := fun f hf => (b f (by omega)).trans ((b1 f (by omega)).trans ((b4 f (by omega)).trans ((b3 f (by omega)).trans (b0 f (by omega)))))
 have d8 : ∀ f, f < 69 -> nm72 f = nm68 f := fun f hf => (d f (by omega)).trans (but69 f (by omega))
 refine ⟨⟨fun f hf => (d8 f (by omega)).trans (mid68.low f hf), (d8 61 (by omega)).trans mid68.chk, (d8 62 (by omega)).trans mid68.ins, (d8 63 (by omega)).trans mid68.add⟩, ?_, ?_, ?_, ?_, d8 68 (by omega), d 69 (by omega), ?_, ?_, rfl, ?_, ?_⟩
 ·rw [d8 64 (by omega), but68 64 (by omega), but67 64 (by omega), but66 64 (by omega), but65 64 (by omega)]
 ·rw [d8 65 (by omega), but68 65 (by omega), but67 65 (by omega), but66 65 (by omega)]
 ·rw [d8 66 (by omega), but68 66 (by omega), but67 66 (by omega)]
 ·rw [d8 67 (by omega), but68 67 (by omega)]
 ·rw [b 70 (by omega), b1 70 (by omega), b4 70 (by omega), b3 70 (by omega)]; rfl
 ·rw [b 71 (by omega)]; rfl
 ·rw [b 73 (by omega), b1 73 (by omega), b4 73 (by omega)]; rfl
 ·rw [b 74 (by omega), b1 74 (by omega)]
section
variable {ρ : Env} {w0 : World} {M : Nat -> Prop} {gl : Gl}
theorem sums41_all (hT : ∀ w', Kept w0 M w' -> TabsIn tabs2 w') : SumsOk Tryz.prog ρ w0 M sums41 := sumsA_ok (fun w' hk => awake_sx w' (hT w' hk)) fun s hs => by cases hs
theorem spC_ok (h : Hi ρ.fn) (hT : ∀ w', Kept w0 M w' -> TabsIn tabs2 w') : SpecOkT Tryz.prog ρ w0 M gl spC :=
 have any : ∀ w', Kept w0 M w' -> AnyW w' := fun _ _ => trivial
 orT_ok (spMeth_ok (MethOk.congr h.e64 meth64) any) (orT_ok (spMeth_ok (MethOk.congr h.e65 meth65) any) (orT_ok (spMeth_ok (MethOk.congr h.e66 meth66) any) (orT_ok (spMeth_ok (MethOk.congr h.e67 meth67) any) (orT_ok (spMeth_ok (MethOk.congr h.e68 meth68) any)
  (orT_ok (ofSpc_ok (orSpec_ok (spNext_ok h.nx hT) (orSpec_ok (spDecided_ok h.nx h.dc hT) (orSpec_ok (spExNew_ok h.en) (orSpec_ok (sumSpec_ok (sumsK_ok h.mid.chk w0 M)) (orSpec_ok (spDecX_ok h.mid.low h.cd hT) (spMast_ok h.mid.low h.cd h.ms hT)))))))
   (orT_ok (spOf_ok h.df) (spM_ok h.mid.low hT (sums41_all hT))))))))
end
theorem callK_ok {F : Mng} (h : Hi F) (ns : List Int) (w : World) (φ : Nat -> Prop) (hT : ∀ w', Kept w φ w' -> TabsIn tabs2 w') : CallOk Tryz.prog (envOf F ns) w φ [] callK :=
 callH_run mixed okF_ok (spC_ok (ρ := envOf F ns) h hT) 30
def getLeaf (a : Fam) (m : Meth) (o : Out) : Bool := famFit [] a o fun σ _ => (leafE m.rs o).isSome && (List.range a.nv).all fun i => E.beq (σ i) (.var i)
section
variable {P : Program} {F G0 : Mng} {O : Nat -> List Int -> Nat -> (Nat -> Prop) -> World -> Prop}
theorem get_run {m : Meth} {a : Fam} {chk : Out -> Bool} (hfam : a.ok 60 = true) (hO : ∀ (k : Nat) (x : Box) (q : Nat) (es : List E), a.bs[k]? = some x -> x.c = .obj q es -> ∀ vs b φ w, O q vs b φ w ↔ Ob q vs b φ w) (hF : ∀ f, f < 60 -> F f = G0 f)
  {ns zs : List Int} {β : Bm} {ψ : Nat -> Nat -> Prop} {w : World} (hlen : ns.length = a.nv) (hfs : ∀ p ∈ a.fs, (p.1.ev (envT G0 ns) ≠ 0 ↔ p.2 = true)) (hl : TLay O (envT G0 ns) a.bs β ψ w)
  {call : Caller} (hcall : CallOk P (envOf F (ns ++ zs)) w (blksT a.bs β ψ) [] call) (has : shFits m.ps zs) (hg : (m.tree call a).all (fun o => getLeaf a m o && chk o) = true) :
  Calls P m.f (.pointer (some ⟨(β 0).1, 0, none⟩) :: shVals m.ps zs).toArray w fun e w' => ∃ o es, chk o = true /\ SX.FsOk (envOf F (ns ++ zs)) o.fs /\ leafE m.rs o = some es /\ e = .returned (packV (shVals m.rs (E.evs (envOf F (ns ++ zs)) es))) /\ shFits m.rs (E.evs (envOf F (ns ++ zs)) es) /\
    ∃ β' ψ', (β' 0).1 = (β 0).1 /\ TLay O (envT G0 ns) a.bs β' ψ' w' /\ (∀ i, blksT a.bs β' ψ' i -> blksT a.bs β ψ i \/ w.heap.size <= i) /\ Kept w (blksT a.bs β ψ) w' := by
 have hparts := Fam.parts hfam; have hfam' := hfam; simp only [Fam.ok, bAnd, blt_iff, dEq] at hfam'; obtain ⟨⟨hpos, _⟩, hwf⟩ := hfam'; have hnear := envOf_low (ms := zs) hF hlen; have hlF := hl.near hnear hparts; have hh := hlF.heap hparts fun k x q es hk e vs b φ w => (hO k x q es hk e vs b φ w).1
 have hdrop : (ns ++ zs).drop a.nv = zs := by rw [<- hlen]; exact List.drop_left ..
 have hasf : shFits m.ps ((ns ++ zs).drop a.nv) := by rw [hdrop]; exact has
 obtain ⟨v1, v2, v3⟩ := varShs_spec (F := F) (β := β) (n := a.bs.length) (hs := m.ps) (i := a.nv) hasf; rw [hdrop] at v1
 have hfacts0 : SX.FsOk (envOf F (ns ++ zs)) (a.fs ++ (boxRngs a.bs ++ varFacts m.ps a.nv)) :=
  SX.fsOk_app (facts_near hnear hwf hfs) (SX.fsOk_app (boxRngs_ok fun x hx => by
   obtain ⟨k, hk, rfl⟩ := List.getElem_of_mem hx; exact hlF.good k _ (lGe hk)) (varFacts_ok hasf))
 have hfacts : SX.FsOk (envOf F (ns ++ zs)) ((a.fs ++ (boxRngs a.bs ++ varFacts m.ps a.nv)).filter (m.sel a.nv)) := fun p hp => hfacts0 p (List.mem_filter.1 hp).1
 have hrun := (hcall m.f (.ptr 0 0 :: varShs m.ps a.nv) (Hp.ofL a.bs) ((a.fs ++ (boxRngs a.bs ++ varFacts m.ps a.nv)).filter (m.sel a.nv)) β w
  (fun x w' => ∃ o es, chk o = true /\ SX.FsOk (envOf F (ns ++ zs)) o.fs /\ leafE m.rs o = some es /\ x = packV (shVals m.rs (E.evs (envOf F (ns ++ zs)) es)) /\ shFits m.rs (E.evs (envOf F (ns ++ zs)) es) /\
    ∃ β' ψ', (β' 0).1 = (β 0).1 /\ TLay O (envT G0 ns) a.bs β' ψ' w' /\ (∀ i, blksT a.bs β' ψ' i -> blksT a.bs β ψ i \/ w.heap.size <= i) /\ Kept w (blksT a.bs β ψ) w')
  hh hfacts ⟨hpos, v2⟩ (fun _ h => by cases h)
  (T.holds_mono (fun o ho β' w' hx hle hst hh' hf' hv => ?_) (T.all_holds hg))).2
 ·have ev : SV.evs (envOf F (ns ++ zs)) β (.ptr 0 0 :: varShs m.ps a.nv) = .pointer (some ⟨(β 0).1, 0, none⟩) :: shVals m.ps zs := by
   simp only [SV.evs, SV.ev]; rw [v1]
  rw [ev] at hrun; exact hrun.mono fun e w' ⟨v, he, o, es, h1, h2, h3, h4, h5⟩ => ⟨o, es, h1, h2, h3, by rw [he, h4], h5⟩
 ·simp only [bAnd] at ho
  obtain ⟨p2, hchk⟩ := ho; rw [getLeaf, famFit_eq] at p2; simp only [bAnd, beq_iff, dEq] at p2; obtain ⟨⟨l1, l1'⟩, ⟨l0, l2⟩, l3, l4⟩ := p2; obtain ⟨es, he⟩ := Option.isSome_iff_exists.1 l3; have hfsR : SX.FsOk (envOf F (ns ++ zs)) (addRules o.fs []) := addRules_ok hf' fun _ h => by cases h
  refine ⟨o, es, hchk, hf', he, ?_⟩; have he' := he; unfold leafE at he'; split at he'
  ·rename_i hc
   obtain ⟨q1, q2⟩ := packV_unpack hc.2 hv he'; obtain ⟨r1, r2⟩ := shTakes_spec (β := β0) q2 he'; refine ⟨by rw [SV.ev_flat β' β0 _ hc.1, q1, r1], r2, ?_⟩
   have hheap : Heap (envSub (envOf F (ns ++ zs)) (famS a o)) w (blksT a.bs β ψ) (fun k => β' (famP a o k)) (Hp.ofL a.bs) w' := lay_fit (st := famSt o) hh' hfsR l1 l1'
   obtain ⟨ψ', t1, t2⟩ := hheap.tlay hparts fun k x q es hk e vs b φ w => (hO k x q es hk e vs b φ w).2
   have hnr : Near a.nv 60 (envSub (envOf F (ns ++ zs)) (famS a o)) (envT G0 ns) := ⟨fun i hi => by
    show (famS a o i).ev _ = ns.getD i 0; rw [E.beq_eq _ _ (lAl.1 l4 i (mRa.2 hi))]; show (ns ++ zs).getD i 0 = _; rw [gDe, lAp (by omega), <- gDe], fun f hf => hF f hf⟩
   refine ⟨fun k => β' (famP a o k), ψ', ?_, t1.near hnr hparts, t2, hh'.kept⟩
   show (β' (famP a o 0)).1 = _; rw [l2, hx 0 hpos]
  ·cases he'
end
def GetOk (P : Program) (I : World -> Prop) (F : Mng) (q : Nat) (m : Meth) : Prop := ∀ (X : Int) (xs : List Int) (b : Nat) (φ : Nat -> Prop) (w : World), shFits m.ps xs -> Ob q [X] b φ w -> (∀ w', Kept w φ w' -> I w') ->
 shFits m.rs (fnVals (F m.name) (X :: xs) (shSize m.rs) 0) /\ Calls P m.f (ptrV b :: shVals m.ps xs).toArray w fun e w' => e = .returned (packV (shVals m.rs (fnVals (F m.name) (X :: xs) (shSize m.rs) 0))) /\
  ∃ φ', Ob q [X] b φ' w' /\ (∀ i, φ' i -> φ i \/ w.heap.size <= i) /\ Kept w φ w'
section
variable {P : Program} {I : World -> Prop} {F : Mng} {K : Kind} {m : Meth} {call : Caller}
theorem get_ok {chk : Nat -> Out -> Bool} (hK : KindOk K) (hlow : Low F) (hcall : ∀ (ns : List Int) (w : World) (φ : Nat -> Prop), (∀ w', Kept w φ w' -> I w') -> CallOk P (envOf F ns) w φ [] call)
  (hg : ∀ t a, K.fam t = some a -> (m.tree call a).all (fun o => getLeaf a m o && chk t o) = true)
  (hv : ∀ (t : Nat) (a : Fam) (ns xs : List Int) (o : Out) (es : List E), K.fam t = some a -> ns.length = a.nv -> shFits m.ps xs -> chk t o = true -> SX.FsOk (envOf F (ns ++ xs)) o.fs -> leafE m.rs o = some es -> fnVals (F m.name) (codL ((t : Int) :: ns) :: xs) (shSize m.rs) 0 = E.evs (envOf F (ns ++ xs)) es) : GetOk P I F K.q m := fun X xs b φ w hxs hob hI => by
 obtain ⟨t, ns, a, β, ψ, e, hfam, hlen, rfl, hfs, hl, hφ⟩ := (hK.is _ _ _ _).1 hob; obtain rfl : X = codL ((t : Int) :: ns) := by simpa using e
 obtain rfl : φ = blksT a.bs β ψ := funext fun i => propext (hφ i)
 have hrun := get_run (hK.ok t a hfam) (hK.nest t a hfam) hlow hlen hfs hl (hcall (ns ++ xs) w _ hI) hxs (hg t a hfam)
 have hrun2 : Calls P m.f (ptrV (β 0).1 :: shVals m.ps xs).toArray w fun e w' => shFits m.rs (fnVals (F m.name) (codL ((t : Int) :: ns) :: xs) (shSize m.rs) 0) /\ e = .returned (packV (shVals m.rs (fnVals (F m.name) (codL ((t : Int) :: ns) :: xs) (shSize m.rs) 0))) /\
  ∃ φ', Ob K.q [codL ((t : Int) :: ns)] (β 0).1 φ' w' /\ (∀ i, φ' i -> blksT a.bs β ψ i \/ w.heap.size <= i) /\ Kept w (blksT a.bs β ψ) w' := hrun.mono fun e w' ⟨o, es, h1, h2, h3, h4, h5, β', ψ', k1, k2, k3, k4⟩ => by
  rw [hv t a ns xs o es hfam hlen hxs h1 h2 h3]; exact ⟨h5, h4, blksT a.bs β' ψ', (hK.is _ _ _ _).2 ⟨t, ns, a, β', ψ', rfl, hfam, hlen, k1, hfs, k2, fun i => Iff.rfl⟩, k3, k4⟩
 exact ⟨calls_some hrun2 fun _ _ h => h.1, hrun2.mono fun _ _ h => h.2⟩
def spGet (q : Nat) (m : Meth) : SpcT := fun f args hp fs => if f = m.f then (match args with
 | .ptr k 0 :: rest => (match objOf q hp k, shTakes m.ps rest with
  | some x, some es => some (.ok ⟨packS (shApps m.name (canon fs x :: canons fs es) m.rs 0), hp.put k ⟨true, .obj q [canon fs x]⟩, fs⟩)
  | _, _ => none)
 | _ => none) else none
theorem spGet_ok {ρ : Env} {w0 : World} {M : Nat -> Prop} {gl : Gl} {q : Nat} (hm : GetOk P I ρ.fn q m) (hI : ∀ w', Kept w0 M w' -> I w') : SpecOkT P ρ w0 M gl (spGet q m) := fun f args hp fs t ht β w K hh hfs ha hg hK => by
 unfold spGet at ht; split at ht
 ·rename_i hfe
  subst hfe; split at ht
  ·rename_i k rest
   split at ht
   ·rename_i x es hx hes
    obtain rfl := sinj ht; obtain ⟨φ, ho⟩ := hh.objs; have hob := ho.has k _ q [x] (objOf_spec hx) rfl; obtain ⟨a1, a2⟩ := shTakes_spec (β := β) ha.2 hes
    have hA : E.evs ρ (canon fs x :: canons fs es) = x.ev ρ :: E.evs ρ es := by
     show (canon fs x).ev ρ :: E.evs ρ (canons fs es) = _; rw [canon_ev hfs, canons_ev hfs]
    obtain ⟨f1, f2⟩ := hm (x.ev ρ) (E.evs ρ es) (β k).1 (φ k) w a2 hob fun w' hk => hI w' (Kept.nest hh.kept (fun i hi => ho.own k _ (objOf_spec hx) rfl i hi) hk)
    have f1' := f1; rw [<- hA] at f1'; obtain ⟨b1, b2⟩ := shApps_spec (β := β) (n := hp.n) m.name _ m.rs 0 _ (Nat.le_refl _) f1'; obtain ⟨c1, c2⟩ := packS_spec (β := β) _ b2
    have hargs : SV.evs ρ β (.ptr k 0 :: rest) = ptrV (β k).1 :: shVals m.ps (E.evs ρ es) := by
     simp only [SV.evs, SV.ev, a1]; rfl
    rw [hargs]; refine f2.mono fun e w' ⟨he, φ', h1, h2, h3⟩ => ⟨_, ?_, hK β w' (Ext.refl _ _) (Nat.le_refl _) (stay_put (objOf_spec hx)) (Heap.turn_ hh ho (objOf_spec hx) (φ' := φ') ?_ h2 h3) hfs c2⟩
    ·rw [he, c1, b1, hA]
    ·show Ob q [(canon fs x).ev ρ] _ _ _
     rw [canon_ev hfs]; exact h1
   ·cases ht
  ·cases ht
 ·cases ht
end
theorem fam_n {t : Nat} {a : Fam} (h : clK.fam t = some a) : 1 <= t /\ t <= 8 /\ a = clA t := by
 have h : clFam t = some a := h; unfold clFam at h; split at h
 ·rename_i c; exact ⟨c.1, c.2, (sinj h).symm⟩
 ·cases h
def stX (X p : Int) : Int := match decL X with
 | t :: ms => if 1 <= p /\ p <= t then ms.getD (stV (p.toNat - 1) 0) 0 else 0
 | [] => 0
def parX (X : Int) (j : Nat) : Int := match decL X with
 | t :: ms => ms.getD (11 + j) 0
 | [] => 0
def nmSt (j : Nat) (ns : List Int) : Int := stX (ns.headD 0) (ns.getD 1 0)
def nmPar (j : Nat) (ns : List Int) : Int := parX (ns.headD 0) j
def stLeaf (n : Nat) (o : Out) : Bool := match leafE [i1] o with
 | some [e] => ((List.range n).any fun i => (decideE o.fs (eq0 (.var (23 + 6 * n)) (litN (i + 1))) == some true) && E.beq e (.var (stV i 0))) || (((List.range n).all fun i => decideE o.fs (eq0 (.var (23 + 6 * n)) (litN (i + 1))) == some false) && E.beq e (.lit 0))
 | _ => false
def parEs : List E := (List.range 11).map fun j => .var (11 + j)
def parLeaf (o : Out) : Bool := match leafE [dsSh] o with
 | some es => E.beqs es parEs
 | _ => false
def stB (n : Nat) : Bool := (clState.tree callK (clA n)).all fun o => getLeaf (clA n) clState o && stLeaf n o
def parB (n : Nat) : Bool := (clPar.tree callK (clA n)).all fun o => getLeaf (clA n) clPar o && parLeaf o
theorem st1 : stB 1 = true := by kernel_rfl
theorem st2 : stB 2 = true := by kernel_rfl
theorem st3 : stB 3 = true := by kernel_rfl
theorem st4 : stB 4 = true := by kernel_rfl
theorem st5 : stB 5 = true := by kernel_rfl
theorem st6 : stB 6 = true := by kernel_rfl
theorem st7 : stB 7 = true := by kernel_rfl
theorem st8 : stB 8 = true := by kernel_rfl
theorem par1 : parB 1 = true := by kernel_rfl
theorem par2 : parB 2 = true := by kernel_rfl
theorem par3 : parB 3 = true := by kernel_rfl
theorem par4 : parB 4 = true := by kernel_rfl
theorem par5 : parB 5 = true := by kernel_rfl
theorem par6 : parB 6 = true := by kernel_rfl
theorem par7 : parB 7 = true := by kernel_rfl
theorem par8 : parB 8 = true := by kernel_rfl
theorem by8 {p : Nat -> Prop} (h1 : p 1) (h2 : p 2) (h3 : p 3) (h4 : p 4) (h5 : p 5) (h6 : p 6) (h7 : p 7) (h8 : p 8) {n : Nat} (h : 1 <= n) (h' : n <= 8) : p n := by
 match n, h, h' with
 | 1, _, _ => exact h1
 | 2, _, _ => exact h2
 | 3, _, _ => exact h3
 | 4, _, _ => exact h4
 | 5, _, _ => exact h5
 | 6, _, _ => exact h6
 | 7, _, _ => exact h7
 | 8, _, _ => exact h8
theorem st_all {n : Nat} (h : 1 <= n) (h' : n <= 8) : stB n = true := by8 (p := fun n => stB n = true) st1 st2 st3 st4 st5 st6 st7 st8 h h'
theorem par_all {n : Nat} (h : 1 <= n) (h' : n <= 8) : parB n = true := by8 (p := fun n => parB n = true) par1 par2 par3 par4 par5 par6 par7 par8 h h'
section
variable {F : Mng}
theorem clA_nv (n : Nat) : (clA n).nv = 23 + 6 * n := rfl
theorem st_get (h : Hi F) (h94 : F 94 = nmSt) : GetOk Tryz.prog (TabsIn tabs2) F 5 clState :=
 get_ok (K := clK) (chk := stLeaf) (call := callK) clK_ok h.mid.low (fun ns w φ hT => callK_ok h ns w φ hT) (fun t a ht => by
  obtain ⟨h1, h8, rfl⟩ := fam_n ht; exact st_all h1 h8) fun t a ns xs o es ht hlen _ hchk hf hes => by
  obtain ⟨h1, h8, rfl⟩ := fam_n ht; rw [clA_nv] at hlen; unfold stLeaf at hchk; have hes : leafE [i1] o = some es := hes; rw [hes] at hchk
  match es, hchk with
  | [e], hchk =>
  show [F 94 0 (codL ((t : Int) :: ns) :: xs)] = [e.ev _]; rw [h94]; show [stX (codL ((t : Int) :: ns)) (xs.getD 0 0)] = _
  have hst : stX (codL ((t : Int) :: ns)) (xs.getD 0 0) = if 1 <= xs.getD 0 0 /\ xs.getD 0 0 <= (t : Int) then ns.getD (stV ((xs.getD 0 0).toNat - 1) 0) 0 else 0 := by
   unfold stX; simp only [decL_cod]
  have hv : (E.var (23 + 6 * t)).ev (envOf F (ns ++ xs)) = xs.getD 0 0 := by
   show (ns ++ xs).getD (23 + 6 * t) 0 = _; rw [gDe, List.getElem?_append_right (by omega), <- gDe, hlen, Nat.sub_self]
  rw [hst]; generalize xs.getD 0 0 = p at *; simp only [bOr, bAnd, List.any_eq_true, mRa, beq_iff_eq] at hchk; rcases hchk with ⟨i, hi, hd, he⟩ | ⟨hall, he⟩
  ·have := eq_of_decide' hf hd
   rw [hv] at this; have this : p = ((i + 1 : Nat) : Int) := this; rw [E.beq_eq _ _ he, if_pos (by omega), show p.toNat - 1 = i by omega]
   show [ns.getD (stV i 0) 0] = [(ns ++ xs).getD (stV i 0) 0]; rw [gDe (l := ns ++ xs), lAp (by unfold stV; omega), <- gDe]
  ·rw [E.beq_eq _ _ he, if_neg]
   ·rfl
   ·intro c
    have := lAl.1 hall (p.toNat - 1) (mRa.2 (by omega))
    have := neq_of_decide hf (by simpa using this)
    rw [hv] at this; exact this (by show p = ((p.toNat - 1 + 1 : Nat) : Int); omega)
theorem par_get (h : Hi F) (h96 : F 96 = nmPar) : GetOk Tryz.prog (TabsIn tabs2) F 5 clPar :=
 get_ok (K := clK) (chk := fun _ => parLeaf) (call := callK) clK_ok h.mid.low (fun ns w φ hT => callK_ok h ns w φ hT) (fun t a ht => by
  obtain ⟨h1, h8, rfl⟩ := fam_n ht; exact par_all h1 h8) fun t a ns xs o es ht hlen _ hchk hf hes => by
  obtain ⟨h1, h8, rfl⟩ := fam_n ht; rw [clA_nv] at hlen; unfold parLeaf at hchk; have hes : leafE [dsSh] o = some es := hes; rw [hes] at hchk; obtain rfl := E.beqs_eq _ _ hchk
  have hp : ∀ j, j < 11 -> F 96 j (codL ((t : Int) :: ns) :: xs) = (E.var (11 + j)).ev (envOf F (ns ++ xs)) := fun j hj => by
   rw [h96]; show parX (codL ((t : Int) :: ns)) j = (ns ++ xs).getD (11 + j) 0; unfold parX; simp only [decL_cod]; rw [gDe (l := ns ++ xs), lAp (by omega), <- gDe]
  show [F 96 0 _, F 96 1 _, F 96 2 _, F 96 3 _, F 96 4 _, F 96 5 _, F 96 6 _, F 96 7 _, F 96 8 _, F 96 9 _, F 96 10 _] = _; rw [hp 0 (by decide), hp 1 (by decide), hp 2 (by decide), hp 3 (by decide), hp 4 (by decide), hp 5 (by decide), hp 6 (by decide), hp 7 (by decide), hp 8 (by decide), hp 9 (by decide), hp 10 (by decide)]
  rfl
end
def clKR : Kind := ⟨6, clFamR, Ob3, 6⟩
def objQR (c : Bx) : Bool := match c with
 | .obj q _ => Nat.beq q 2 || Nat.beq q 4
 | _ => true
theorem clFamR_objs : ((List.range 9).all fun n => (clFamR n).all fun a => a.bs.all fun x => objQR x.c) = true := by kernel_rfl
theorem clKR_ok : KindOk clKR := ⟨fun vs b φ w => Iff.rfl, clFamR_ok, fun t a h k x q es hk e vs b φ w => by
 have h : clFamR t = some a := h
 have ht : 1 <= t /\ t <= 8 := by
  by_cases c : 1 <= t /\ t <= 8
  ·exact c
  ·unfold clFamR at h; rw [if_neg c] at h; cases h
 have h1 := lAl.1 clFamR_objs t (mRa.2 (by omega))
 rw [h] at h1; have h2 := lAl.1 (show (a.bs.all fun x => objQR x.c) = true from h1) x (List.mem_of_getElem? hk)
 rw [e] at h2; simp only [objQR, bOr, beq_iff, dEq] at h2; show Ob3 q vs b φ w ↔ Ob q vs b φ w; unfold Ob; rw [if_neg (by omega), if_neg (by omega)]⟩
theorem fam_nR {t : Nat} {a : Fam} (h : clKR.fam t = some a) : 1 <= t /\ t <= 8 /\ a = clAR t := by
 have h : clFamR t = some a := h; unfold clFamR at h; split at h
 ·rename_i c; exact ⟨c.1, c.2, (sinj h).symm⟩
 ·cases h
theorem fam_t {t : Nat} (h1 : 1 <= t) (h8 : t <= 8) : clK.fam t = some (clA t) := by
 show clFam t = _; unfold clFam; rw [if_pos ⟨h1, h8⟩]; rfl
section
variable {ρ : Env}
theorem hearRuL_ok (hl : Low ρ.fn) (h74 : ρ.fn 74 = nm74 74) (v t i : Nat) {n : Nat} (hn : n <= 8) : RuleOk ρ (hearRuL v t i n) := fun hp => by
 rw [hearRuL, fsOk_cons, fsOk_cons, lt0_ev, lt0_ev] at hp; obtain ⟨q1, q2, hp⟩ := hp; have q1 : ¬ ρ.v (v - 1) < 1 := fun c => Bool.noConfusion (q1.1 c)
 have q2 : ¬ (n : Int) < ρ.v (v - 1) := fun c => Bool.noConfusion (q2.1 c)
 obtain ⟨herr, hp⟩ := eqF_cons.1 hp; rw [fsOk_cons] at hp; obtain ⟨hgm, hp⟩ := hp; obtain ⟨hw, hp⟩ := (wellF_cons hl).1 hp
 have hr0 : (Lit.int .u64 (ρ.v 0)).wf = true := rngPs_ok (ks := [.u64]) (v := 0) (fun p hq => by
  obtain rfl : p = rngP .u64 0 := by simpa [rngPs] using hq
  exact hp _ (lHd ..)) 0 .u64 rfl
 have hrs := rngPs_ok (ks := msgKs) (v := v) fun p hq => hp p (lTl _ hq)
 -- the arguments of Of
 let ns : List Int := E.evs ρ (ofLV v)
 have hnv : ∀ j, j < 21 -> ns.getD j 0 = ρ.v (v + j) := fun j hj => by
  show (E.evs ρ (ofLV v)).getD j 0 = _; rw [evs_getD, ofLV, gDe, lAp (by simp; omega), lMp, lRa hj]
  rfl
 have hns : shFits ofA.ps ns := by
  refine ⟨(fits_getD _ _).2 fun j l hj => ?_, ?_, ?_, trivial⟩
  ·have hj21 : j < 21 := (lSo.1 hj).1
   rw [hnv j hj21]; have hk : (msgKs.map Lk.int)[j]? = some l := hj; rw [lMp] at hk; obtain ⟨k, h1, rfl⟩ := Option.map_eq_some_iff.1 hk; exact hrs j k h1
  ·exact hr0
  ·show (Lit.int .i64 (ρ.v (v - 1))).wf = true
   exact wfI (by omega)
 have happ : ∀ j, (E.app 74 j (ofLV v)).ev ρ = nm74 74 j ns := fun j => by
  show ρ.fn 74 j _ = _; rw [h74]
 rw [happ] at herr; have hann := of_ann hns herr; have hv : ∀ j, (E.var j).ev (envOf nm74 ns) = ns.getD j 0 := fun _ => rfl
 -- the data set that is heard
 have hD : ∀ k, k < 21 -> (E.var k).ev (envOf nm74 ns) = ρ.v (v + k) := fun k hk => hnv k hk
 have rng : ∀ (lo hi' : Int) (e : E), SX.FsOk (envOf nm74 ns) (rngF lo hi' e) -> lo <= e.ev (envOf nm74 ns) /\ e.ev (envOf nm74 ns) <= hi' := fun lo hi' e hf => by
  rw [rngF, fsOk_cons, fsOk_cons, lt0_ev, lt0_ev] at hf; have h1 : ¬ e.ev (envOf nm74 ns) < lo := fun c => Bool.noConfusion (hf.1.1 c)
  have h2 : ¬ hi' < e.ev (envOf nm74 ns) := fun c => Bool.noConfusion (hf.2.1.1 c)
  omega
 unfold annF at hann; simp only [fsOk_apps] at hann; obtain ⟨⟨⟨⟨⟨r0, r1⟩, r2⟩, r3⟩, r4⟩, r6⟩ := hann
 have hWD : WellD (E.evs ρ (ofDV v)) (ρ.v 0) := by
  refine ⟨?_, ?_, ?_, ?_, ?_, ?_, ?_⟩
  ·rw [show (E.evs ρ (ofDV v)).getD 0 0 = ρ.v (v + 13) from rfl, <- hD 13 (by decide)]; exact rng _ _ _ r0
  ·rw [show (E.evs ρ (ofDV v)).getD 1 0 = ρ.v (v + 14) from rfl, <- hD 14 (by decide)]; exact rng _ _ _ r1
  ·rw [show (E.evs ρ (ofDV v)).getD 2 0 = ρ.v (v + 15) from rfl, <- hD 15 (by decide)]; exact rng _ _ _ r2
  ·rw [show (E.evs ρ (ofDV v)).getD 3 0 = ρ.v (v + 16) from rfl, <- hD 16 (by decide)]; exact rng _ _ _ r3
  ·rw [show (E.evs ρ (ofDV v)).getD 4 0 = ρ.v (v + 17) from rfl, <- hD 17 (by decide)]; exact rng _ _ _ r4
  ·intro e
   have e : ρ.v (v + 18) = ρ.v 0 := e; exact Bool.noConfusion (hgm.1 ((eqk_ev (ρ := ρ) .u64 (.var (v + 18)) (.var 0)).2 e))
  ·rw [show (E.evs ρ (ofDV v)).getD 6 0 = ρ.v (v + 19) from rfl, <- hD 19 (by decide)]; exact rng _ _ _ r6
 refine (wellF_cons hl).2 ⟨?_, fun _ h => by cases h⟩
 rw [hearE_ev hl (d := ofDV v) (by simp [ofDV]), dec_code]
 exact hear_well hw hWD
theorem rulesAnnR_ok (hl : Low ρ.fn) (h74 : ρ.fn 74 = nm74 74) {n : Nat} (hn : n <= 8) : ∀ r ∈ rulesAnnR n, RuleOk ρ r := fun r hr => by
 rcases mCo.1 hr with rfl | hr
 ·exact hearRuL_ok hl h74 _ _ _ hn
 ·exact rulesAnn_ok hl h74 hn r hr
end
section
variable {ρ : Env} {w0 : World} {M : Nat -> Prop} {gl : Gl}
theorem spCR_ok (h : Hi ρ.fn) (hT : ∀ w', Kept w0 M w' -> TabsIn tabs2 w') : SpecOkT Tryz.prog ρ w0 M gl spCR :=
 have any : ∀ w', Kept w0 M w' -> AnyW w' := fun _ _ => trivial
 orT_ok (spMeth_ok (MethOk.congr h.e64 meth64R) any) (orT_ok (spMeth_ok (MethOk.congr h.e65 meth65R) any) (orT_ok (spMeth_ok (MethOk.congr h.e66 meth66R) any) (orT_ok (spMeth_ok (MethOk.congr h.e67 meth67R) any) (orT_ok (spMeth_ok (MethOk.congr h.e68 meth68R) any)
  (orT_ok (ofSpc_ok (orSpec_ok (spNextR_ok h.nx) (orSpec_ok (spExNewR_ok h.en) (orSpec_ok (sumSpec_ok (sumsK_ok h.mid.chk w0 M)) (orSpec_ok (spDecXR_ok h.mid.low h.cd hT) (spMast_okR h.mid.low h.cd h.ms hT))))))
   (orT_ok (spOfR_ok h.df) (orT_ok (spF2_ok h.mid.low) (orT_ok (spBest2_ok h.mid.low) (ofSpc_ok (spLess2_ok h.mid.low))))))))))
end
theorem callKR_ok {F : Mng} (h : Hi F) (ns : List Int) (w : World) (φ : Nat -> Prop) (hT : ∀ w', Kept w φ w' -> TabsIn tabs2 w') : CallOk Tryz.prog (envOf F ns) w φ [] callKR :=
 callH_run mixed okF_ok (spCR_ok (ρ := envOf F ns) h hT) 30
def stTestR (n : Nat) (o : Out) (e : E) : Bool := ((List.range n).any fun i => (decideE o.fs (eq0 (.var (23 + 6 * n)) (litN (i + 1))) == some true) && E.beq e (.var (stV i 0)))
  || ((((List.range (n - 1)).all fun i => decideE o.fs (eq0 (.var (23 + 6 * n)) (litN (i + 1))) == some false) && (decideE o.fs (lt0 (.var (23 + 6 * n)) (.lit 1)) == some false) && (decideE o.fs (lt0 (litN n) (.var (23 + 6 * n))) == some false)) && E.beq e (.var (stV (n - 1) 0)))
  || ((decideE o.fs (lt0 (.var (23 + 6 * n)) (.lit 1)) == some true || decideE o.fs (lt0 (litN n) (.var (23 + 6 * n))) == some true) && E.beq e (.lit 0))
def stLeafR (n : Nat) (o : Out) : Bool := match leafE [i1] o with
 | some [e] => stTestR n o e
 | _ => false
def stBR (n : Nat) : Bool := (rcState.tree callKR (clAR n)).all fun o => getLeaf (clAR n) rcState o && stLeafR n o
def parBR (n : Nat) : Bool := (rcPar.tree callKR (clAR n)).all fun o => getLeaf (clAR n) rcPar o && parLeaf o
theorem st1R : stBR 1 = true := by kernel_rfl
theorem st2R : stBR 2 = true := by kernel_rfl
theorem st3R : stBR 3 = true := by kernel_rfl
theorem st4R : stBR 4 = true := by kernel_rfl
theorem st5R : stBR 5 = true := by kernel_rfl
theorem st6R : stBR 6 = true := by kernel_rfl
theorem st7R : stBR 7 = true := by kernel_rfl
theorem st8R : stBR 8 = true := by kernel_rfl
theorem par1R : parBR 1 = true := by kernel_rfl
theorem par2R : parBR 2 = true := by kernel_rfl
theorem par3R : parBR 3 = true := by kernel_rfl
theorem par4R : parBR 4 = true := by kernel_rfl
theorem par5R : parBR 5 = true := by kernel_rfl
theorem par6R : parBR 6 = true := by kernel_rfl
theorem par7R : parBR 7 = true := by kernel_rfl
theorem par8R : parBR 8 = true := by kernel_rfl
theorem st_allR {n : Nat} (h : 1 <= n) (h' : n <= 8) : stBR n = true := by8 (p := fun n => stBR n = true) st1R st2R st3R st4R st5R st6R st7R st8R h h'
theorem par_allR {n : Nat} (h : 1 <= n) (h' : n <= 8) : parBR n = true := by8 (p := fun n => parBR n = true) par1R par2R par3R par4R par5R par6R par7R par8R h h'
section
variable {F : Mng}
theorem clAR_nv (n : Nat) : (clAR n).nv = 23 + 6 * n := rfl
theorem st_getR (h : Hi F) (h94 : F 94 = nmSt) : GetOk Tryz.prog (TabsIn tabs2) F 6 rcState :=
 get_ok (K := clKR) (chk := stLeafR) (call := callKR) clKR_ok h.mid.low (fun ns w φ hT => callKR_ok h ns w φ hT) (fun t a ht => by
  obtain ⟨h1, h8, rfl⟩ := fam_nR ht; have := st_allR h1 h8; unfold stBR at this; exact this) fun t a ns xs o es ht hlen _ hchk hf hes => by
  obtain ⟨h1, h8, rfl⟩ := fam_nR ht; rw [clAR_nv] at hlen; unfold stLeafR at hchk; have hes : leafE [i1] o = some es := hes; rw [hes] at hchk
  match es, hchk with
  | [e], hchk =>
  show [F 94 0 (codL ((t : Int) :: ns) :: xs)] = [e.ev _]; rw [h94]; show [stX (codL ((t : Int) :: ns)) (xs.getD 0 0)] = _
  have hst : stX (codL ((t : Int) :: ns)) (xs.getD 0 0) = if 1 <= xs.getD 0 0 /\ xs.getD 0 0 <= (t : Int) then ns.getD (stV ((xs.getD 0 0).toNat - 1) 0) 0 else 0 := by
   unfold stX; simp only [decL_cod]
  have hv : (E.var (23 + 6 * t)).ev (envOf F (ns ++ xs)) = xs.getD 0 0 := by
   show (ns ++ xs).getD (23 + 6 * t) 0 = _; rw [gDe, List.getElem?_append_right (by omega), <- gDe, hlen, Nat.sub_self]
  rw [hst]; generalize xs.getD 0 0 = p at *; have hchk : stTestR t o e = true := hchk; unfold stTestR at hchk; simp only [bOr, bAnd, List.any_eq_true, mRa, beq_iff_eq] at hchk; rcases hchk with (⟨i, hi, hd, he⟩ | ⟨⟨⟨hall, h1'⟩, h2'⟩, he⟩) | ⟨h1', he⟩
  ·have := eq_of_decide' hf hd
   rw [hv] at this; have this : p = ((i + 1 : Nat) : Int) := this; rw [E.beq_eq _ _ he, if_pos (by omega), show p.toNat - 1 = i by omega]
   show [ns.getD (stV i 0) 0] = [(ns ++ xs).getD (stV i 0) 0]; rw [gDe (l := ns ++ xs), lAp (by unfold stV; omega), <- gDe]
  ·have a1 := ge_of_decide (b := .lit 1) hf h1'
   have a2 := ge_of_decide (a := litN t) (b := .var (23 + 6 * t)) hf h2'; rw [hv] at a1 a2; have a1 : 1 <= p := a1; have a2 : p <= ((t : Nat) : Int) := a2
   have hp : p = (t : Int) := by
    by_cases c : p = (t : Int)
    ·exact c
    ·have := lAl.1 hall (p.toNat - 1) (mRa.2 (by omega))
     have := neq_of_decide hf (by simpa using this)
     rw [hv] at this; exact absurd (show p = ((p.toNat - 1 + 1 : Nat) : Int) by omega) this
   rw [E.beq_eq _ _ he, if_pos (by omega), show p.toNat - 1 = t - 1 by omega]
   show [ns.getD (stV (t - 1) 0) 0] = [(ns ++ xs).getD (stV (t - 1) 0) 0]; rw [gDe (l := ns ++ xs), lAp (by unfold stV; omega), <- gDe]
  ·rw [E.beq_eq _ _ he, if_neg]
   ·rfl
   ·intro c
    rcases h1' with h1' | h1'
    ·have := lt_of_decide hf h1'
     rw [hv] at this; have this : p < 1 := this; omega
    ·have := lt_of_decide hf h1'
     rw [hv] at this; have this : ((t : Nat) : Int) < p := this; omega
theorem par_getR (h : Hi F) (h96 : F 96 = nmPar) : GetOk Tryz.prog (TabsIn tabs2) F 6 rcPar :=
 get_ok (K := clKR) (chk := fun _ => parLeaf) (call := callKR) clKR_ok h.mid.low (fun ns w φ hT => callKR_ok h ns w φ hT) (fun t a ht => by
  obtain ⟨h1, h8, rfl⟩ := fam_nR ht; have := par_allR h1 h8; unfold parBR at this; exact this) fun t a ns xs o es ht hlen _ hchk hf hes => by
  obtain ⟨h1, h8, rfl⟩ := fam_nR ht; rw [clAR_nv] at hlen; unfold parLeaf at hchk; have hes : leafE [dsSh] o = some es := hes; rw [hes] at hchk; obtain rfl := E.beqs_eq _ _ hchk
  have hp : ∀ j, j < 11 -> F 96 j (codL ((t : Int) :: ns) :: xs) = (E.var (11 + j)).ev (envOf F (ns ++ xs)) := fun j hj => by
   rw [h96]; show parX (codL ((t : Int) :: ns)) j = (ns ++ xs).getD (11 + j) 0; unfold parX; simp only [decL_cod]; rw [gDe (l := ns ++ xs), lAp (by omega), <- gDe]
  show [F 96 0 _, F 96 1 _, F 96 2 _, F 96 3 _, F 96 4 _, F 96 5 _, F 96 6 _, F 96 7 _, F 96 8 _, F 96 9 _, F 96 10 _] = _; rw [hp 0 (by decide), hp 1 (by decide), hp 2 (by decide), hp 3 (by decide), hp 4 (by decide), hp 5 (by decide), hp 6 (by decide), hp 7 (by decide), hp 8 (by decide), hp 9 (by decide), hp 10 (by decide)]
  rfl
end
end
end Go.Proofs.YtfcpmapfhgibpaaGreatDoor
