/- A clock's methods: their contracts; what a law knows of a clock. -/
import Derived.Test.YtfcpmapfhgibpaaDoorWv
import Derived.Test.YtfcpmapfhgibpaaDoorWx1
import Derived.Test.YtfcpmapfhgibpaaDoorWx2
import Derived.Test.YtfcpmapfhgibpaaDoorWx3
import Derived.Test.YtfcpmapfhgibpaaDoorWx4
import Derived.Test.YtfcpmapfhgibpaaDoorWx5
import Derived.Test.YtfcpmapfhgibpaaDoorWx6
import Derived.Test.YtfcpmapfhgibpaaDoorWy
namespace Go.Proofs.YtfcpmapfhgibpaaDoor
open Go Go.RowKit SX Frm Frn
set_option linter.unusedVariables false
set_option linter.unusedSimpArgs false
set_option maxRecDepth 100000

theorem Hi.congr {F G : Nat → Nat → List Int → Int} (h : Hi G) (he : ∀ f, f < 80 → F f = G f) : Hi F :=
  ⟨⟨fun f hf => (he f (by omega)).trans (h.mid.low f hf), (he 61 (by decide)).trans h.mid.chk, (he 62 (by decide)).trans h.mid.ins, (he 63 (by decide)).trans h.mid.add⟩,
    (he 64 (by decide)).trans h.e64, (he 65 (by decide)).trans h.e65, (he 66 (by decide)).trans h.e66, (he 67 (by decide)).trans h.e67, (he 68 (by decide)).trans h.e68, (he 69 (by decide)).trans h.nx, (he 70 (by decide)).trans h.dc, (he 71 (by decide)).trans h.cd, (he 72 (by decide)).trans h.ms, (he 73 (by decide)).trans h.en, (he 74 (by decide)).trans h.df⟩
def nOf (a : Fam) : Nat := (a.nv - 23) / 6
theorem nOf_clA (n : Nat) : nOf (clA n) = n := by
  show (23 + 6 * n - 23) / 6 = n
  omega
def rsA (a : Fam) : List Rule := if nOf a ≤ 8 then rulesAnn (nOf a) else []
def rsS (a : Fam) : List Rule := rulesSync (nOf a)
def rsD (a : Fam) : List Rule := rulesDec (nOf a)
theorem rsA_at {t : Nat} (h : t ≤ 8) : rsA (clA t) = rulesAnn t := by
  unfold rsA
  rw [nOf_clA, if_pos h]
theorem rsA_ok {F : Nat → Nat → List Int → Int} (h : Hi F) (ns : List Int) (a : Fam) : ∀ r ∈ rsA a, RuleOk (envOf F ns) r := fun r hr => by
  unfold rsA at hr
  split at hr
  · rename_i h8; exact rulesAnn_ok (ρ := envOf F ns) h.mid.low h.df h8 r hr
  · cases hr
theorem gA_all {n : Nat} (h : 1 ≤ n) (h' : n ≤ 8) : clAnn.good 6 (rulesAnn n) (clA n) (clAnn.tree callK (clA n)) = true := by8 (p := fun n => clAnn.good 6 (rulesAnn n) (clA n) (clAnn.tree callK (clA n)) = true) gA1 gA2 gA3 gA4 gA5 gA6 gA7 gA8 h h'
noncomputable def nm80 : Nat → Nat → List Int → Int := fun f => if f = 80 then methN clK nm72 callK clAnn else nm72 f
theorem but80 : But 80 nm80 nm72 := fun f hf => if_neg hf
theorem hi80 : Hi nm80 := hi72.congr fun f hf => but80 f (by omega)
theorem meth80 : MethOk Tryd.prog (TabsIn tabs2) nm80 5 6 clAnn :=
  meth_ok (K := clK) (G := nm72) (call := callK) (rs := rsA) clK_ok but80 hi80.mid.low (if_pos rfl) (fun ns w φ hT => callK_ok hi80 ns w φ hT) (fun a ns => rsA_ok hi80 ns a) fun t a h => by
    obtain ⟨h1, h8, rfl⟩ := fam_n h
    rw [rsA_at h8]; exact gA_all h1 h8
theorem gD_all {n : Nat} (h : 1 ≤ n) (h' : n ≤ 8) : clDec.good 6 (rulesDec n) (clA n) (clDec.m.tree callK (clA n)) = true := by8 (p := fun n => clDec.good 6 (rulesDec n) (clA n) (clDec.m.tree callK (clA n)) = true) gD1 gD2 gD3 gD4 gD5 gD6 gD7 gD8 h h'
noncomputable def nm82 : Nat → Nat → List Int → Int := fun f => if f = 82 then methNS clK nm80 callK clDec else if f = 83 then methNC clK nm80 callK clDec else nm80 f
theorem but82 : But2 82 nm82 nm80 := fun f h1 h2 => (if_neg h1).trans (if_neg h2)
theorem hi82 : Hi nm82 := hi80.congr fun f hf => but82 f (by omega) (by omega)
theorem meth82 : MethSOk Tryd.prog (TabsIn tabs2) nm82 5 6 clDec :=
  methS_ok (K := clK) (G := nm80) (call := callK) (rs := rsD) clK_ok but82 hi82.mid.low (if_pos rfl) ((if_neg (by decide)).trans (if_pos rfl)) (fun ns w φ hT => callK_ok hi82 ns w φ hT) (fun a ns => rulesDec_ok (ρ := envOf nm82 ns) hi82.mid.low hi82.dc hi82.cd hi82.ms (nOf a)) fun t a h => by
    obtain ⟨h1, h8, rfl⟩ := fam_n h
    rw [show rsD (clA t) = rulesDec t by unfold rsD; rw [nOf_clA]]; exact gD_all h1 h8
theorem gS_all {n : Nat} (h : 1 ≤ n) (h' : n ≤ 8) : clSync.good 6 (rulesSync n) (clA n) (clSync.tree callK (clA n)) = true := by8 (p := fun n => clSync.good 6 (rulesSync n) (clA n) (clSync.tree callK (clA n)) = true) gS1 gS2 gS3 gS4 gS5 gS6 gS7 gS8 h h'
noncomputable def nm84 : Nat → Nat → List Int → Int := fun f => if f = 84 then methN clK nm82 callK clSync else nm82 f
theorem but84 : But 84 nm84 nm82 := fun f hf => if_neg hf
theorem hi84 : Hi nm84 := hi82.congr fun f hf => but84 f (by omega)
theorem meth84 : MethOk Tryd.prog (TabsIn tabs2) nm84 5 6 clSync :=
  meth_ok (K := clK) (G := nm82) (call := callK) (rs := rsS) clK_ok but84 hi84.mid.low (if_pos rfl) (fun ns w φ hT => callK_ok hi84 ns w φ hT) (fun a ns => rulesSync_ok (ρ := envOf nm84 ns) hi84.mid.low hi84.nx (nOf a)) fun t a h => by
    obtain ⟨h1, h8, rfl⟩ := fam_n h
    rw [show rsS (clA t) = rulesSync t by unfold rsS; rw [nOf_clA]]; exact gS_all h1 h8
theorem gQ_all {n : Nat} (h : 1 ≤ n) (h' : n ≤ 8) : clReq.good 6 [] (clA n) (clReq.tree callK (clA n)) = true := by8 (p := fun n => clReq.good 6 [] (clA n) (clReq.tree callK (clA n)) = true) gQ1 gQ2 gQ3 gQ4 gQ5 gQ6 gQ7 gQ8 h h'
noncomputable def nm86 : Nat → Nat → List Int → Int := fun f => if f = 86 then methN clK nm84 callK clReq else nm84 f
theorem but86 : But 86 nm86 nm84 := fun f hf => if_neg hf
theorem hi86 : Hi nm86 := hi84.congr fun f hf => but86 f (by omega)
theorem meth86 : MethOk Tryd.prog (TabsIn tabs2) nm86 5 6 clReq :=
  meth_ok (K := clK) (G := nm84) (call := callK) (rs := fun _ => []) clK_ok but86 hi86.mid.low (if_pos rfl) (fun ns w φ hT => callK_ok hi86 ns w φ hT) (fun _ _ _ hr => by cases hr) fun t a h => by
    obtain ⟨h1, h8, rfl⟩ := fam_n h
    exact gQ_all h1 h8
theorem gP_all {n : Nat} (h : 1 ≤ n) (h' : n ≤ 8) : clResp.good 6 (rulesSync n) (clA n) (clResp.tree callK (clA n)) = true := by8 (p := fun n => clResp.good 6 (rulesSync n) (clA n) (clResp.tree callK (clA n)) = true) gP1 gP2 gP3 gP4 gP5 gP6 gP7 gP8 h h'
noncomputable def nm88 : Nat → Nat → List Int → Int := fun f => if f = 88 then methN clK nm86 callK clResp else nm86 f
theorem but88 : But 88 nm88 nm86 := fun f hf => if_neg hf
theorem hi88 : Hi nm88 := hi86.congr fun f hf => but88 f (by omega)
theorem meth88 : MethOk Tryd.prog (TabsIn tabs2) nm88 5 6 clResp :=
  meth_ok (K := clK) (G := nm86) (call := callK) (rs := rsS) clK_ok but88 hi88.mid.low (if_pos rfl) (fun ns w φ hT => callK_ok hi88 ns w φ hT) (fun a ns => rulesSync_ok (ρ := envOf nm88 ns) hi88.mid.low hi88.nx (nOf a)) fun t a h => by
    obtain ⟨h1, h8, rfl⟩ := fam_n h
    rw [show rsS (clA t) = rulesSync t by unfold rsS; rw [nOf_clA]]; exact gP_all h1 h8
theorem gO_all {n : Nat} (h : 1 ≤ n) (h' : n ≤ 8) : clOff.good 6 [] (clA n) (clOff.tree callK (clA n)) = true := by8 (p := fun n => clOff.good 6 [] (clA n) (clOff.tree callK (clA n)) = true) gO1 gO2 gO3 gO4 gO5 gO6 gO7 gO8 h h'
noncomputable def nm90 : Nat → Nat → List Int → Int := fun f => if f = 90 then methN clK nm88 callK clOff else nm88 f
theorem but90 : But 90 nm90 nm88 := fun f hf => if_neg hf
theorem hi90 : Hi nm90 := hi88.congr fun f hf => but90 f (by omega)
theorem meth90 : MethOk Tryd.prog (TabsIn tabs2) nm90 5 6 clOff :=
  meth_ok (K := clK) (G := nm88) (call := callK) (rs := fun _ => []) clK_ok but90 hi90.mid.low (if_pos rfl) (fun ns w φ hT => callK_ok hi90 ns w φ hT) (fun _ _ _ hr => by cases hr) fun t a h => by
    obtain ⟨h1, h8, rfl⟩ := fam_n h
    exact gO_all h1 h8
theorem gE_all {n : Nat} (h : 1 ≤ n) (h' : n ≤ 8) : clSend.good 6 [] (clA n) (clSend.m.tree callK (clA n)) = true := by8 (p := fun n => clSend.good 6 [] (clA n) (clSend.m.tree callK (clA n)) = true) gE1 gE2 gE3 gE4 gE5 gE6 gE7 gE8 h h'
noncomputable def nm92 : Nat → Nat → List Int → Int := fun f => if f = 92 then methNS clK nm90 callK clSend else if f = 93 then methNC clK nm90 callK clSend else nm90 f
theorem but92 : But2 92 nm92 nm90 := fun f h1 h2 => (if_neg h1).trans (if_neg h2)
theorem hi92 : Hi nm92 := hi90.congr fun f hf => but92 f (by omega) (by omega)
theorem meth92 : MethSOk Tryd.prog (TabsIn tabs2) nm92 5 6 clSend :=
  methS_ok (K := clK) (G := nm90) (call := callK) (rs := fun _ => []) clK_ok but92 hi92.mid.low (if_pos rfl) ((if_neg (by decide)).trans (if_pos rfl)) (fun ns w φ hT => callK_ok hi92 ns w φ hT) (fun _ _ _ hr => by cases hr) fun t a h => by
    obtain ⟨h1, h8, rfl⟩ := fam_n h
    exact gE_all h1 h8
/-- Meanings that have the names of a clock's methods. -/
structure Top (F : Nat → Nat → List Int → Int) : Prop where
  hi : Hi F
  e80 : F 80 = nm80 80
  e82 : F 82 = nm82 82
  e83 : F 83 = nm82 83
  e84 : F 84 = nm84 84
  e86 : F 86 = nm86 86
  e88 : F 88 = nm88 88
  e90 : F 90 = nm90 90
  e92 : F 92 = nm92 92
  e93 : F 93 = nm92 93
  e94 : F 94 = nmSt
  e96 : F 96 = nmPar
noncomputable def nm96 : Nat → Nat → List Int → Int := fun f => if f = 94 then nmSt else if f = 96 then nmPar else nm92 f
theorem but96 : ∀ f, f < 94 → nm96 f = nm92 f := fun f hf => (if_neg (by omega)).trans (if_neg (by omega))
theorem top96 : Top nm96 := by
  have a92 : ∀ f, f < 92 → nm92 f = nm90 f := fun f hf => but92 f (by omega) (by omega)
  have a90 : ∀ f, f < 90 → nm90 f = nm88 f := fun f hf => but90 f (by omega)
  have a88 : ∀ f, f < 88 → nm88 f = nm86 f := fun f hf => but88 f (by omega)
  have a86 : ∀ f, f < 86 → nm86 f = nm84 f := fun f hf => but86 f (by omega)
  have a84 : ∀ f, f < 84 → nm84 f = nm82 f := fun f hf => but84 f (by omega)
  have a82 : ∀ f, f < 82 → nm82 f = nm80 f := fun f hf => but82 f (by omega) (by omega)
  have b90 : ∀ f, f < 92 → nm96 f = nm90 f := fun f hf => (but96 f (by omega)).trans (a92 f hf)
  have b88 : ∀ f, f < 90 → nm96 f = nm88 f := fun f hf => (b90 f (by omega)).trans (a90 f hf)
  have b86 : ∀ f, f < 88 → nm96 f = nm86 f := fun f hf => (b88 f (by omega)).trans (a88 f hf)
  have b84 : ∀ f, f < 86 → nm96 f = nm84 f := fun f hf => (b86 f (by omega)).trans (a86 f hf)
  have b82 : ∀ f, f < 84 → nm96 f = nm82 f := fun f hf => (b84 f (by omega)).trans (a84 f hf)
  have b80 : ∀ f, f < 82 → nm96 f = nm80 f := fun f hf => (b82 f (by omega)).trans (a82 f hf)
  exact ⟨hi92.congr fun f hf => but96 f (by omega), b80 80 (by decide), b82 82 (by decide), b82 83 (by decide), b84 84 (by decide), b86 86 (by decide), b88 88 (by decide), b90 90 (by decide), but96 92 (by decide), but96 93 (by decide), if_pos rfl, (if_neg (by decide)).trans (if_pos rfl)⟩
section
variable {F : Nat → Nat → List Int → Int}
theorem Top.ann (h : Top F) : MethOk Tryd.prog (TabsIn tabs2) F 5 6 clAnn := MethOk.congr h.e80 meth80
theorem Top.dec (h : Top F) : MethSOk Tryd.prog (TabsIn tabs2) F 5 6 clDec := MethSOk.congr h.e82 h.e83 meth82
theorem Top.sync (h : Top F) : MethOk Tryd.prog (TabsIn tabs2) F 5 6 clSync := MethOk.congr h.e84 meth84
theorem Top.req (h : Top F) : MethOk Tryd.prog (TabsIn tabs2) F 5 6 clReq := MethOk.congr h.e86 meth86
theorem Top.resp (h : Top F) : MethOk Tryd.prog (TabsIn tabs2) F 5 6 clResp := MethOk.congr h.e88 meth88
theorem Top.off (h : Top F) : MethOk Tryd.prog (TabsIn tabs2) F 5 6 clOff := MethOk.congr h.e90 meth90
theorem Top.send (h : Top F) : MethSOk Tryd.prog (TabsIn tabs2) F 5 6 clSend := MethSOk.congr h.e92 h.e93 meth92
theorem Top.stat (h : Top F) : GetOk Tryd.prog (TabsIn tabs2) F 5 clState := st_get h.hi h.e94
theorem Top.par (h : Top F) : GetOk Tryd.prog (TabsIn tabs2) F 5 clPar := par_get h.hi h.e96
end
end Go.Proofs.YtfcpmapfhgibpaaDoor
namespace Go.Proofs.YtfcpmapfhgibpaaDoor
open Go Go.RowKit SX Frm Frn
set_option linter.unusedVariables false
set_option linter.unusedSimpArgs false
set_option maxRecDepth 100000

/-- A clock as it should be, whose first six numbers are known. -/
def Good (X : Int) (cs : List Int) : Prop := ∃ (t : Nat) (ms : List Int), X = codL ((t : Int) :: ms) ∧ 1 ≤ t ∧ t ≤ 8 ∧ ms.length = 23 + 6 * t ∧ (∀ p ∈ clF t, (p.1.ev (envT FN ms) ≠ 0 ↔ p.2 = true)) ∧ ms.take 6 = cs
noncomputable def okN (j : Nat) (ns : List Int) : Int := open Classical in if Good (ns.headD 0) ns.tail then 1 else 0
/-- Is a port Uncalibrated or Slave? -/
def isSl (s : Int) : Int := if s = 8 ∨ s = 9 then 1 else 0
/-- How many of the ports 1 to k are. -/
noncomputable def cntX (X : Int) : Nat → Int
  | 0 => 0
  | k + 1 => cntX X k + isSl (stX X ((k : Int) + 1))
/-- How many of the ports below p are. -/
noncomputable def cntI (j : Nat) (ns : List Int) : Int := cntX (ns.headD 0) ((ns.getD 1 0).toNat - 1)
theorem good_ob {X : Int} {cs : List Int} {b : Nat} {φ : Nat → Prop} {w : World} {Y : Int} (hg : Good X cs) (hk : Keeps 6 X Y) (ho : Ob 5 [Y] b φ w) : Good Y cs := by
  obtain ⟨t, ms, rfl, h1, h8, hlen, _, hcs⟩ := hg
  obtain ⟨t', ns, ns', e1, e2, hkp⟩ := hk
  have e := codL_inj e1
  simp only [List.cons.injEq] at e
  obtain ⟨et, rfl⟩ := e
  obtain ⟨t2, ns2, a, β, ψ, e3, hfam, hlen2, _, hfs, _, _⟩ := (clK_ok.is _ _ _ _).1 ho
  obtain ⟨_, _, rfl⟩ := fam_n hfam
  have e3 : Y = codL ((t2 : Int) :: ns2) := by simpa using e3
  rw [e3] at e2
  have e := codL_inj e2
  simp only [List.cons.injEq] at e
  obtain ⟨et2, rfl⟩ := e
  obtain rfl : t2 = t := by omega
  rw [clA_nv] at hlen2
  refine ⟨t2, ns2, e3, h1, h8, hlen2, hfs, ?_⟩
  rw [← hcs]
  refine List.ext_getElem? fun i => ?_
  by_cases hi : i < 6
  · rw [List.getElem?_take_of_lt hi, List.getElem?_take_of_lt hi]
    have := hkp i hi
    rw [List.getD_eq_getElem?_getD, List.getD_eq_getElem?_getD, List.getElem?_eq_getElem (by omega), List.getElem?_eq_getElem (by omega)] at this
    rw [List.getElem?_eq_getElem (by omega), List.getElem?_eq_getElem (by omega)]
    exact congrArg some this
  · rw [List.getElem?_eq_none (by rw [List.length_take]; omega), List.getElem?_eq_none (by rw [List.length_take]; omega)]
theorem okN_iff {j : Nat} {X : Int} {cs : List Int} : okN j (X :: cs) = 1 ↔ Good X cs := by
  unfold okN
  split
  · rename_i h
    have h : Good X cs := h
    exact ⟨fun _ => h, fun _ => rfl⟩
  · rename_i h
    have h : ¬ Good X cs := h
    exact ⟨fun e => absurd e (by decide), fun e => absurd e h⟩
/-! ### What it means -/
section
variable {X : Int} {cs : List Int}
theorem getD_sts {l : List Int} {t i : Nat} (h : i < t) : ((List.range t).map fun i => l.getD (stV i 0) 0).getD i 0 = l.getD (stV i 0) 0 := getD_range h fun i => l.getD (stV i 0) 0
theorem clF_one {t : Nat} {e : E} {ms : List Int} (hf : ∀ p ∈ clF t, (p.1.ev (envT FN ms) ≠ 0 ↔ p.2 = true)) (hm : oneF e ∈ clF t) : e.ev (envT FN ms) = 1 := oneF_ok.1 fun p hp => by
  obtain rfl := List.mem_singleton.1 hp
  exact hf _ hm
theorem mem_follow (t : Nat) : oneF followE ∈ clF t := by
  unfold clF
  simp [List.mem_append]
theorem mem_sts (t : Nat) : oneF (stsE t) ∈ clF t := by
  unfold clF
  simp [List.mem_append]
theorem good_sts {t : Nat} {ms : List Int} (hf : ∀ p ∈ clF t, (p.1.ev (envT FN ms) ≠ 0 ↔ p.2 = true)) : StsOk ((List.range t).map fun i => ms.getD (stV i 0) 0) := by
  have h := clF_one hf (mem_sts t)
  rw [stsE, sts_ev (ρ := envT FN ms) (fun f _ => rfl), range_evs] at h
  exact h
theorem stX_cod {t : Nat} {ms : List Int} {p : Int} : stX (codL ((t : Int) :: ms)) p = if 1 ≤ p ∧ p ≤ (t : Int) then ms.getD (stV (p.toNat - 1) 0) 0 else 0 := by
  unfold stX
  simp only [decL_cod]
theorem isSl_le (s : Int) : 0 ≤ isSl s ∧ isSl s ≤ 1 := by unfold isSl; split <;> omega
theorem cntX_nonneg (X : Int) : ∀ k, 0 ≤ cntX X k
  | 0 => Int.le_refl _
  | k + 1 => by have := cntX_nonneg X k; have := (isSl_le (stX X ((k : Int) + 1))).1; unfold cntX; omega
/-- At most one. -/
theorem cntX_one (h : Good X cs) : ∀ k, cntX X k ≤ 1 ∧ ∀ j, k ≤ j → cntX X k = 1 → isSl (stX X ((j : Int) + 1)) = 0 := by
  obtain ⟨t, ms, rfl, h1, h8, hlen, hf, _⟩ := h
  have hs := good_sts hf
  have key : ∀ i j : Nat, i ≠ j → isSl (stX (codL ((t : Int) :: ms)) ((i : Int) + 1)) = 1 → isSl (stX (codL ((t : Int) :: ms)) ((j : Int) + 1)) = 0 := fun i j hij hi => by
    have st : ∀ i : Nat, isSl (stX (codL ((t : Int) :: ms)) ((i : Int) + 1)) = 1 → i < t ∧ 7 < ((List.range t).map fun i => ms.getD (stV i 0) 0).getD i 0 := fun i hi => by
      rw [stX_cod] at hi
      split at hi
      · rename_i c
        have hit : i < t := by omega
        refine ⟨hit, ?_⟩
        rw [getD_sts hit]
        rw [show ((i : Int) + 1).toNat - 1 = i by omega] at hi
        unfold isSl at hi
        split at hi
        · rename_i c; omega
        · cases hi
      · exact absurd hi (by decide)
    by_cases hj : isSl (stX (codL ((t : Int) :: ms)) ((j : Int) + 1)) = 1
    · have a := st i hi
      have b := st j hj
      exact absurd (hs.one i j (by simpa using a.1) (by simpa using b.1) a.2 b.2) hij
    · have := isSl_le (stX (codL ((t : Int) :: ms)) ((j : Int) + 1)); omega
  have pos : ∀ k, cntX (codL ((t : Int) :: ms)) k = 0 ∨ (cntX (codL ((t : Int) :: ms)) k = 1 ∧ ∃ i, i < k ∧ isSl (stX (codL ((t : Int) :: ms)) ((i : Int) + 1)) = 1) := fun k => by
    induction k with
    | zero => exact .inl rfl
    | succ k ih =>
      have hl := isSl_le (stX (codL ((t : Int) :: ms)) ((k : Int) + 1))
      show cntX _ k + isSl _ = 0 ∨ (cntX _ k + isSl _ = 1 ∧ _)
      rcases ih with ih | ⟨ih, i, hi, hs⟩
      · rw [ih]
        by_cases c : isSl (stX (codL ((t : Int) :: ms)) ((k : Int) + 1)) = 1
        · exact .inr ⟨by omega, k, by omega, c⟩
        · exact .inl (by omega)
      · have := key i k (by omega) hs
        exact .inr ⟨by omega, i, by omega, hs⟩
  intro k
  rcases pos k with h | ⟨h, i, hi, hs⟩
  · exact ⟨by omega, fun j _ e => by omega⟩
  · exact ⟨by omega, fun j hj _ => key i j (by omega) hs⟩
/-- What is followed. -/
theorem good_follow (h : Good X cs) : followN cs ((List.range 11).map fun j => parX X j) = 1 := by
  obtain ⟨t, ms, rfl, h1, h8, hlen, hf, rfl⟩ := h
  have h := clF_one hf (mem_follow t)
  have h : FN 58 0 (E.evs (envT FN ms) ((List.range 6 ++ (List.range' 11 11)).map .var)) = 1 := h
  rw [List.map_append, evs_app] at h
  have e1 : E.evs (envT FN ms) ((List.range 6).map .var) = ms.take 6 := by
    rw [range_evs]
    refine List.ext_getElem? fun i => ?_
    by_cases hi : i < 6
    · rw [List.getElem?_map, List.getElem?_range hi, List.getElem?_take_of_lt hi, List.getElem?_eq_getElem (by omega)]
      show some (ms.getD i 0) = _
      rw [List.getD_eq_getElem?_getD, List.getElem?_eq_getElem (by omega)]
      rfl
    · rw [List.getElem?_eq_none (by simp; omega), List.getElem?_eq_none (by rw [List.length_take]; omega)]
  have e2 : E.evs (envT FN ms) ((List.range' 11 11).map .var) = (List.range 11).map fun j => parX (codL ((t : Int) :: ms)) j := by
    have : ∀ j, parX (codL ((t : Int) :: ms)) j = ms.getD (11 + j) 0 := fun j => by
      unfold parX
      simp only [decL_cod]
    simp only [this]
    rfl
  rw [e1, e2] at h
  have h : followN ((ms.take 6 ++ (List.range 11).map fun j => parX (codL ((t : Int) :: ms)) j).take 6) ((ms.take 6 ++ (List.range 11).map fun j => parX (codL ((t : Int) :: ms)) j).drop 6) = 1 := h
  have hl : (ms.take 6).length = 6 := by rw [List.length_take]; omega
  rwa [List.take_append_of_le_length (by omega), List.take_of_length_le (by omega), List.drop_append, hl, List.drop_of_length_le (by omega), List.nil_append, Nat.sub_self, List.drop_zero] at h
end
/-! ### Methods that keep it -/
def okE (x : E) (cs : List E) : E := .app 98 0 (x :: cs)
/-- What is known behind a method: the new clock is one as it should be if the old one was. -/
def okTo (fs : Fs) (x y : E) (cs : List E) : Fs := if decideE fs (eq0 (okE x cs) (.lit 1)) = some true then learn fs (eq0 (okE y cs) (.lit 1)) true else fs
section
variable {P : Program} {I : World → Prop} {ρ : Env}
theorem okTo_ok (h98 : ρ.fn 98 = okN) {fs : Fs} {x y : E} {cs : List E} {b : Nat} {φ : Nat → Prop} {w : World} (hf : SX.FsOk ρ fs) (hk : Keeps 6 (x.ev ρ) (y.ev ρ)) (ho : Ob 5 [y.ev ρ] b φ w) : SX.FsOk ρ (okTo fs x y cs) := by
  unfold okTo
  split
  · rename_i hd
    have h1 := eq_of_decide' hf hd
    have h1 : ρ.fn 98 0 (x.ev ρ :: E.evs ρ cs) = 1 := h1
    rw [h98, okN_iff] at h1
    refine learn_ok hf ?_
    rw [eq0_ev]
    show (ρ.fn 98 0 (y.ev ρ :: E.evs ρ cs) = 1) ↔ _
    rw [h98, okN_iff]
    exact ⟨fun _ => rfl, fun _ => good_ob h1 hk ho⟩
  · exact hf
/-- A method at a clock. -/
def spMethK (cs : List E) (m : Meth) : SpcT := fun f args hp fs => if f = m.f then (match args with
  | .ptr k 0 :: rest => (match objOf 5 hp k, shTakes m.ps rest with
    | some x, some es => some (.ok ⟨packS (shApps m.name (canon fs x :: canons fs es) m.rs 1), hp.put k ⟨true, .obj 5 [.app m.name 0 (canon fs x :: canons fs es)]⟩, okTo fs (canon fs x) (.app m.name 0 (canon fs x :: canons fs es)) cs⟩)
    | _, _ => none)
  | _ => none) else none
theorem spMethK_ok {w0 : World} {M : Nat → Prop} {gl : Gl} {m : Meth} {cs : List E} (h98 : ρ.fn 98 = okN) (hm : MethOk P I ρ.fn 5 6 m) (hI : ∀ w', Kept w0 M w' → I w') : SpecOkT P ρ w0 M gl (spMethK cs m) := fun f args hp fs t ht β w K hh hfs ha hg hK => by
  unfold spMethK at ht
  split at ht
  · rename_i hfe
    subst hfe
    split at ht
    · rename_i k rest
      split at ht
      · rename_i x es hx hes
        obtain rfl := Option.some.inj ht
        obtain ⟨φ, ho⟩ := hh.objs
        have hob := ho.has k _ 5 [x] (objOf_spec hx) rfl
        obtain ⟨a1, a2⟩ := shTakes_spec (β := β) ha.2 hes
        have hA : E.evs ρ (canon fs x :: canons fs es) = x.ev ρ :: E.evs ρ es := by
          show (canon fs x).ev ρ :: E.evs ρ (canons fs es) = _
          rw [canon_ev hfs, canons_ev hfs]
        obtain ⟨f1, fk, f2⟩ := hm (x.ev ρ) (E.evs ρ es) (β k).1 (φ k) w a2 hob fun w' hk => hI w' (Kept.nest hh.kept (fun i hi => ho.own k _ (objOf_spec hx) rfl i hi) hk)
        have f1' := f1
        rw [← hA] at f1'
        obtain ⟨b1, b2⟩ := shApps_spec (β := β) (n := hp.n) m.name _ m.rs 1 _ (Nat.le_refl _) f1'
        obtain ⟨c1, c2⟩ := packS_spec (β := β) _ b2
        have hargs : SV.evs ρ β (.ptr k 0 :: rest) = ptrV (β k).1 :: shVals m.ps (E.evs ρ es) := by
          simp only [SV.evs, SV.ev, a1]; rfl
        rw [hargs]
        refine f2.mono fun e w' ⟨he, φ', h1, h2, h3⟩ => ⟨_, ?_, hK β w' (Ext.refl _ _) (Nat.le_refl _) (stay_put (objOf_spec hx)) (Heap.turn_ hh ho (objOf_spec hx) (φ' := φ') ?_ h2 h3) (okTo_ok (b := (β k).1) (φ := φ') (w := w') h98 hfs ?_ ?_) c2⟩
        · rw [he, c1, b1, hA]
        · show Ob 5 [ρ.fn m.name 0 (E.evs ρ (canon fs x :: canons fs es))] _ _ _
          rw [hA]; exact h1
        · show Keeps 6 ((canon fs x).ev ρ) (ρ.fn m.name 0 (E.evs ρ (canon fs x :: canons fs es)))
          rw [hA, canon_ev hfs]; exact fk
        · show Ob 5 [ρ.fn m.name 0 (E.evs ρ (canon fs x :: canons fs es))] _ _ _
          rw [hA]; exact h1
      · cases ht
    · cases ht
  · cases ht
/-- A method that returns a slice, at a clock. -/
def spMethSK (cs : List E) (m : MethS) : SpcT := fun f args hp fs => if f = m.m.f then (match args with
  | .ptr k 0 :: rest => (match objOf 5 hp k, shTakes m.m.ps rest with
    | some x, some es => some (lenT 5 m hp k (canon fs x :: canons fs es) 8 0 (okTo fs (canon fs x) (.app m.m.name 0 (canon fs x :: canons fs es)) cs))
    | _, _ => none)
  | _ => none) else none
theorem spMethSK_ok {w0 : World} {M : Nat → Prop} {gl : Gl} {m : MethS} {cs : List E} (h98 : ρ.fn 98 = okN) (hm : MethSOk P I ρ.fn 5 6 m) (hI : ∀ w', Kept w0 M w' → I w') : SpecOkT P ρ w0 M gl (spMethSK cs m) := fun f args hp fs0 t ht β w K hh hfs0 ha hg hK => by
  unfold spMethSK at ht
  split at ht
  · rename_i hfe
    subst hfe
    split at ht
    · rename_i k rest
      split at ht
      · rename_i x es hx hes
        obtain rfl := Option.some.inj ht
        obtain ⟨φ, ho⟩ := hh.objs
        have hob := ho.has k _ 5 [x] (objOf_spec hx) rfl
        obtain ⟨a1, a2⟩ := shTakes_spec (β := β) ha.2 hes
        have hcx : (canon fs0 x).ev ρ = x.ev ρ := canon_ev hfs0 _
        have hA : E.evs ρ (canon fs0 x :: canons fs0 es) = x.ev ρ :: E.evs ρ es := by
          show (canon fs0 x).ev ρ :: E.evs ρ (canons fs0 es) = _
          rw [canon_ev hfs0, canons_ev hfs0]
        generalize hL : canon fs0 x :: canons fs0 es = L at *
        obtain ⟨n, c1, c2, f1, fk, f2⟩ := hm (x.ev ρ) (E.evs ρ es) (β k).1 (φ k) w a2 hob fun w' hk => hI w' (Kept.nest hh.kept (fun i hi => ho.own k _ (objOf_spec hx) rfl i hi) hk)
        rw [← hA] at c1 f1 fk
        obtain ⟨b', φ1, w1, hob1⟩ : ∃ b φ w', Ob 5 [ρ.fn m.m.name 0 (E.evs ρ L)] b φ w' := calls_some f2 fun _ w' ⟨sv, φ', _, h1, _⟩ => by
          rw [hA]; exact ⟨_, _, _, h1⟩
        have hfs : SX.FsOk ρ (okTo fs0 (canon fs0 x) (.app m.m.name 0 L) cs) := okTo_ok h98 hfs0 (by
          show Keeps 6 _ (ρ.fn m.m.name 0 (E.evs ρ L))
          rw [hcx]; exact fk) hob1
        generalize okTo fs0 (canon fs0 x) (.app m.m.name 0 L) cs = fs at *
        have hargs : SV.evs ρ β (.ptr k 0 :: rest) = ptrV (β k).1 :: shVals m.m.ps (E.evs ρ es) := by
          simp only [SV.evs, SV.ev, a1]; rfl
        rw [hargs]
        obtain ⟨fs', hf', hK⟩ := lenT_run (n := n) c1 8 0 fs hfs (Nat.zero_le _) (by omega) hK
        refine f2.mono fun e w' ⟨sv, φ', he, h1, h2, h3, h4⟩ => ?_
        rw [← hA] at he h1 h4
        have h1' : Ob 5 (E.evs ρ [.app m.m.name 0 L]) (β k).1 φ' w' := h1
        have hkn := Hp.at_lt (objOf_spec hx)
        rcases h4 with ⟨rfl, rfl⟩ | ⟨k1, k2, b, c, hsv, hb, hnb, hfit, hln, hli⟩
        · obtain ⟨b1, b2⟩ := shApps_spec (β := β) (n := hp.n) m.m.name L m.m.rs 2 _ (Nat.le_refl _) f1
          obtain ⟨d1, d2⟩ := packS_spec (ρ := ρ) (β := β) (n := hp.n) (.raw (.slice none 0 0) :: shApps m.m.name L m.m.rs 2) ⟨trivial, b2⟩
          refine ⟨_, he, ?_⟩
          have := hK β w' (Ext.refl _ _) (Nat.le_refl _) (stay_put (objOf_spec hx)) (Heap.turn_ hh ho (objOf_spec hx) h1' h2 h3) hf' d2
          rw [show (resS 5 m hp k L 0 fs').v = packS (.raw (.slice none 0 0) :: shApps m.m.name L m.m.rs 2) from rfl, d1] at this
          simp only [SV.evs, b1] at this
          exact this
        · obtain ⟨j, rfl⟩ : ∃ j, n = j + 1 := ⟨n - 1, by omega⟩
          obtain ⟨g1, g2⟩ := cells_S (ρ := ρ) (β := upd β hp.n (b, c)) (n := hp.n + 1) (m.m.name + 1) L m.ks (List.range (j + 1)) (by rw [List.length_range]; exact hfit)
          rw [List.length_range] at g1
          have hheap := Heap.turnNew hh ho (objOf_spec hx) h1' h2 h3 (bv := (b, c)) (c := .cells ((List.range (j + 1)).flatMap fun i => apps (m.m.name + 1) (L ++ [litN i]) m.ks 0) m.ty m.tl) hb hnb g2 (by
            rw [lies_V, g1]; exact hli)
          obtain ⟨b1, b2⟩ := shApps_spec (β := upd β hp.n (b, c)) (n := hp.n + 1) m.m.name L m.m.rs 2 _ (Nat.le_refl _) f1
          obtain ⟨d1, d2⟩ := packS_spec (ρ := ρ) (β := upd β hp.n (b, c)) (n := hp.n + 1) (.slice hp.n 0 (j + 1) (if m.tl = 0 then some (j + 1) else none) :: shApps m.m.name L m.m.rs 2) ⟨show hp.n < hp.n + 1 by omega, b2⟩
          refine ⟨_, he, ?_⟩
          have := hK (upd β hp.n (b, c)) w' (upd_ext _ _ _) (by show hp.n ≤ _; simp [resS]) ((stay_put (objOf_spec hx)).trans (Stay.push _ _)) hheap hf' (by simpa [resS] using d2)
          rw [show (resS 5 m hp k L (j + 1) fs').v = packS (.slice hp.n 0 (j + 1) (if m.tl = 0 then some (j + 1) else none) :: shApps m.m.name L m.m.rs 2) from rfl, d1] at this
          simp only [SV.evs, b1, SV.ev, upd_same] at this
          rw [hsv]
          have hcap : (if m.tl = 0 then some (j + 1) else none : Option Nat).getD c = if m.tl = 0 then j + 1 else c := by split <;> rfl
          rw [hcap] at this
          exact this
      · cases ht
    · cases ht
  · cases ht
end
end Go.Proofs.YtfcpmapfhgibpaaDoor
namespace Go.Proofs.YtfcpmapfhgibpaaDoor
open Go Go.RowKit SX Frm Frn
set_option linter.unusedVariables false
set_option linter.unusedSimpArgs false
set_option maxRecDepth 100000

/-- The names of a law. -/
structure Law (F : Nat → Nat → List Int → Int) : Prop where
  top : Top F
  cnt : F 97 = cntI
  ok : F 98 = okN
def stE (x p : E) : E := .app 94 0 [x, p]
def slE (x p : E) : E := .app 97 0 [x, p]
def parE (j : Nat) (x : E) : E := .app 96 j [x]
def cs6 : List E := [.var 0, .var 1, .var 2, .var 3, .var 4, .var 5]
def okX (x : E) : E := okE x cs6
/-- The data set of the clock itself. -/
def ownE : List E := [.var 1, .var 2, .var 3, .var 4, .var 5, .var 0, .lit 0, .var 0, .lit 0, .var 0, .lit 0]
def dsK : List IntKind := [.i64, .i64, .i64, .i64, .i64, .u64, .i64, .u64, .i64, .u64, .i64]
def slRu0 (x : E) : Rule := ⟨[], [(eq0 (slE x (.lit 1)) (.lit 0), true)]⟩
def slRng (x : E) (k : Nat) : Rule := ⟨[oneF (okX x)], [(lt0 (slE x (litN k)) (.lit 0), false), (lt0 (.lit 1) (slE x (litN k)), false)]⟩
/-- Port k is one (s), or none. -/
def slRu (x : E) (k s : Nat) : Rule := ⟨[(eq0 (stE x (litN k)) (litN s), true)], [(eq0 (slE x (litN (k + 1))) (.bin .add .i64 (slE x (litN k)) (.lit 1)), true)]⟩
def slRuN (x : E) (k : Nat) : Rule := ⟨[(eq0 (stE x (litN k)) (.lit 8), false), (eq0 (stE x (litN k)) (.lit 9), false)], [(eq0 (slE x (litN (k + 1))) (slE x (litN k)), true)]⟩
def slRus (x : E) (k : Nat) : List Rule := [slRng x k, slRng x (k + 1), slRu x k 8, slRu x k 9, slRuN x k]
/-- The parent is the clock itself: numbers js .. of both data sets are the same. -/
def sameP (x : E) : List Nat → E
  | [] => .lit 1
  | [j] => .bin .eq (dsK.getD j .i64) (parE j x) (ownE.getD j (.lit 0))
  | j :: l => .bin .band .i64 (.bin .eq (dsK.getD j .i64) (parE j x) (ownE.getD j (.lit 0))) (sameP x l)
/-- The parent is not the clock itself: another grandmaster's, not after its own. -/
def farRu (x : E) (p : E × Bool) : Rule := ⟨[oneF (okX x), (sameP x (List.range 11), false), p], [(.lit 0, true)]⟩
def gmP (x : E) : E × Bool := (.bin .eq .u64 (parE 5 x) (.var 0), true)
def lsE (x : E) : E := .app 3 0 (ownE ++ (List.range 11).map fun j => parE j x)
def lessP (x : E) : E × Bool := (lsE x, true)
def farRus (x : E) : List Rule := [farRu x (gmP x), farRu x (lessP x)]
section
variable {ρ : Env}
theorem stE_ev (h : Law ρ.fn) (x p : E) : (stE x p).ev ρ = stX (x.ev ρ) (p.ev ρ) := by
  show ρ.fn 94 0 [x.ev ρ, p.ev ρ] = _
  rw [h.top.e94]; rfl
theorem slE_ev (h : Law ρ.fn) (x p : E) : (slE x p).ev ρ = cntX (x.ev ρ) ((p.ev ρ).toNat - 1) := by
  show ρ.fn 97 0 [x.ev ρ, p.ev ρ] = _
  rw [h.cnt]; rfl
theorem parE_ev (h : Law ρ.fn) (x : E) (j : Nat) : (parE j x).ev ρ = parX (x.ev ρ) j := by
  show ρ.fn 96 j [x.ev ρ] = _
  rw [h.top.e96]; rfl
theorem okX_ev (h : Law ρ.fn) (x : E) : (okX x).ev ρ = 1 ↔ Good (x.ev ρ) (E.evs ρ cs6) := by
  show ρ.fn 98 0 (x.ev ρ :: E.evs ρ cs6) = 1 ↔ _
  rw [h.ok, okN_iff]
theorem slRu0_ok (h : Law ρ.fn) (x : E) : RuleOk ρ (slRu0 x) := fun _ => eqF_cons.2 ⟨by rw [slE_ev h]; rfl, fun _ h => by cases h⟩
theorem slRng_ok (h : Law ρ.fn) (x : E) (k : Nat) : RuleOk ρ (slRng x k) := fun hp => by
  have hg := (okX_ev h x).1 (oneF_ok.1 hp)
  have h1 := (cntX_one hg (((litN k).ev ρ).toNat - 1)).1
  have h0 := cntX_nonneg (x.ev ρ) (((litN k).ev ρ).toNat - 1)
  rw [← slE_ev h] at h1 h0
  show SX.FsOk ρ [(lt0 (slE x (litN k)) (.lit 0), false), (lt0 (.lit 1) (slE x (litN k)), false)]
  rw [fsOk_cons, fsOk_cons, lt0_ev, lt0_ev, lit_ev, lit_ev]
  exact ⟨⟨fun h => by omega, fun h => Bool.noConfusion h⟩, ⟨fun h => by omega, fun h => Bool.noConfusion h⟩, fun _ h => by cases h⟩
theorem cnt_step {X : Int} {k : Nat} (hk : 1 ≤ k) : cntX X (k + 1 - 1) = cntX X (k - 1) + isSl (stX X (k : Int)) := by
  obtain ⟨j, rfl⟩ : ∃ j, k = j + 1 := ⟨k - 1, by omega⟩
  rw [Nat.add_sub_cancel, Nat.add_sub_cancel]
  show cntX X j + isSl (stX X ((j : Int) + 1)) = _
  rw [show ((j + 1 : Nat) : Int) = (j : Int) + 1 by omega]
theorem slRu_ok (h : Law ρ.fn) (x : E) {k s : Nat} (hk : 1 ≤ k) (hs : s = 8 ∨ s = 9) (hr : ∀ X : Int, cntX X (k - 1) < 1000) : RuleOk ρ (slRu x k s) := fun hp => by
  obtain ⟨h1, _⟩ := eqF_cons.1 hp
  rw [stE_ev h] at h1
  have h1 : stX (x.ev ρ) (k : Int) = (s : Int) := h1
  refine eqF_cons.2 ⟨?_, fun _ h => by cases h⟩
  show (slE x (litN (k + 1))).ev ρ = IntKind.i64.wrap ((slE x (litN k)).ev ρ + 1)
  rw [slE_ev h, slE_ev h]
  have e : ∀ n : Nat, ((litN n).ev ρ).toNat = n := fun n => by show ((n : Int)).toNat = n; omega
  rw [e, e, cnt_step hk, h1, show isSl (s : Int) = 1 by unfold isSl; rw [if_pos (by omega)]]
  have := hr (x.ev ρ)
  have := cntX_nonneg (x.ev ρ) (k - 1)
  rw [wrap_fit]
  exact ⟨by have : IntKind.i64.min = -9223372036854775808 := by decide
            omega, by have : IntKind.i64.max = 9223372036854775807 := by decide
                      omega⟩
theorem cntX_le (X : Int) : ∀ k : Nat, cntX X k ≤ (k : Int)
  | 0 => Int.le_refl _
  | k + 1 => by have := cntX_le X k; have := (isSl_le (stX X ((k : Int) + 1))).2; unfold cntX; omega
theorem slRuN_ok (h : Law ρ.fn) (x : E) {k : Nat} (hk : 1 ≤ k) : RuleOk ρ (slRuN x k) := fun hp => by
  rw [slRuN, fsOk_cons, fsOk_cons, eq0_ev, eq0_ev, stE_ev h] at hp
  have h1 : stX (x.ev ρ) (k : Int) ≠ 8 := fun e => Bool.noConfusion (hp.1.1 e)
  have h2 : stX (x.ev ρ) (k : Int) ≠ 9 := fun e => Bool.noConfusion (hp.2.1.1 e)
  refine eqF_cons.2 ⟨?_, fun _ h => by cases h⟩
  rw [slE_ev h, slE_ev h]
  have e : ∀ n : Nat, ((litN n).ev ρ).toNat = n := fun n => by show ((n : Int)).toNat = n; omega
  rw [e, e, cnt_step hk, show isSl (stX (x.ev ρ) (k : Int)) = 0 by unfold isSl; rw [if_neg (by omega)]]
  omega
theorem slRus_ok (h : Law ρ.fn) (x : E) {k : Nat} (hk : 1 ≤ k) (hk9 : k < 100) : ∀ r ∈ slRus x k, RuleOk ρ r := fun r hr => by
  have hc : ∀ X : Int, cntX X (k - 1) < 1000 := fun X => by have := cntX_le X (k - 1); omega
  simp only [slRus, List.mem_cons, List.not_mem_nil, or_false] at hr
  rcases hr with rfl | rfl | rfl | rfl | rfl
  · exact slRng_ok h x k
  · exact slRng_ok h x (k + 1)
  · exact slRu_ok h x hk (.inl rfl) hc
  · exact slRu_ok h x hk (.inr rfl) hc
  · exact slRuN_ok h x hk
theorem eqn_false {k : IntKind} {a b : E} {l : Fs} (hp : SX.FsOk ρ ((.bin .eq k a b, false) :: l)) : a.ev ρ ≠ b.ev ρ ∧ SX.FsOk ρ l := by
  rw [fsOk_cons] at hp
  exact ⟨fun e => Bool.noConfusion (hp.1.1 ((eqk_ev k a b).2 e)), hp.2⟩
theorem own_evs : E.evs ρ ownE = ownL (E.evs ρ cs6) := rfl
theorem sameP_ev (h : Law ρ.fn) (x : E) : ∀ l : List Nat, (∀ j ∈ l, (parE j x).ev ρ = (ownE.getD j (.lit 0)).ev ρ) → (sameP x l).ev ρ ≠ 0
  | [], _ => by show (1 : Int) ≠ 0; decide
  | [j], hl => (eqk_ev _ _ _).2 (hl j (List.mem_cons_self ..))
  | j :: i :: l, hl => by
    have h1 := (eqk_ev (ρ := ρ) (dsK.getD j .i64) (parE j x) (ownE.getD j (.lit 0))).2 (hl j (List.mem_cons_self ..))
    have h2 := sameP_ev h x (i :: l) fun k hk => hl k (List.mem_cons_of_mem _ hk)
    show (if _ ∧ _ then (1 : Int) else 0) ≠ 0
    rw [if_pos ⟨h1, h2⟩]
    decide
theorem far_ok (h : Law ρ.fn) (x : E) {p : E × Bool} (hp : p = gmP x ∨ p = lessP x) : RuleOk ρ (farRu x p) := fun hf => by
  exfalso
  obtain ⟨hok, hf⟩ := oneF_cons.1 hf
  have hg := good_follow ((okX_ev h x).1 hok)
  rw [fsOk_cons] at hf
  obtain ⟨hne, hf⟩ := hf
  rw [followN_iff] at hg
  rcases hg with hg | ⟨hg, hl⟩
  · refine Bool.noConfusion (hne.1 (sameP_ev h x (List.range 11) fun j hj => ?_))
    have hj := List.mem_range.1 hj
    rw [← own_evs] at hg
    have := congrArg (fun l => l.getD j 0) hg
    simp only [getD_range hj, evs_getD] at this
    rw [parE_ev h]
    exact this
  · rcases hp with rfl | rfl
    · have h1 := hf _ (List.mem_cons_self ..)
      have h2 := (eqk_ev (ρ := ρ) .u64 (parE 5 x) (.var 0)).1 (h1.2 rfl)
      rw [parE_ev h] at h2
      exact hg.gm h2
    · have h1 := hf _ (List.mem_cons_self ..)
      have h2 : (lsE x).ev ρ ≠ 0 := h1.2 rfl
      have h3 : (lsE x).ev ρ = FN 3 0 (E.evs ρ (ownE ++ (List.range 11).map fun j => parE j x)) := by
        show ρ.fn 3 0 _ = _
        rw [h.top.hi.mid.low 3 (by decide)]
      rw [h3, evs_app, range_evs, own_evs] at h2
      have hl11 : (ownL (E.evs ρ cs6)).length = 11 := rfl
      have h4 : (List.range 11).map (fun i => (parE i x).ev ρ) = (List.range 11).map fun j => parX (x.ev ρ) j := List.map_congr_left fun i _ => parE_ev h x i
      rw [h4] at h2
      refine h2 ?_
      show (if ltB ((ownL (E.evs ρ cs6) ++ (List.range 11).map fun j => parX (x.ev ρ) j).take 11) (((ownL (E.evs ρ cs6) ++ (List.range 11).map fun j => parX (x.ev ρ) j).drop 11).take 11) = true then (1 : Int) else 0) = 0
      rw [List.take_append_of_le_length (by omega), List.take_of_length_le (by omega), List.drop_append, hl11, List.drop_of_length_le (by omega), List.nil_append, Nat.sub_self, List.drop_zero, List.take_of_length_le (by simp), hl]
      rfl
theorem farRus_ok (h : Law ρ.fn) (x : E) : ∀ r ∈ farRus x, RuleOk ρ r := fun r hr => by
  simp only [farRus, List.mem_cons, List.not_mem_nil, or_false] at hr
  rcases hr with rfl | rfl
  · exact far_ok h x (.inl rfl)
  · exact far_ok h x (.inr rfl)
end
end Go.Proofs.YtfcpmapfhgibpaaDoor
