/- Contracts of both clocks; new clocks; what the law calls. -/
import Derived.Test.YtfcpmapfhgibpaaGreatDoorWv
import Derived.Test.YtfcpmapfhgibpaaGreatDoorWx1
import Derived.Test.YtfcpmapfhgibpaaGreatDoorWx2
import Derived.Test.YtfcpmapfhgibpaaGreatDoorWx3
import Derived.Test.YtfcpmapfhgibpaaGreatDoorWx4
import Derived.Test.YtfcpmapfhgibpaaGreatDoorWx6
import Derived.Test.YtfcpmapfhgibpaaGreatDoorWz1
import Derived.Test.YtfcpmapfhgibpaaGreatDoorWz2
import Derived.Test.YtfcpmapfhgibpaaGreatDoorWz3
import Derived.Test.YtfcpmapfhgibpaaGreatDoorWz4
import Derived.Test.YtfcpmapfhgibpaaGreatDoorWz5
import Derived.Test.YtfcpmapfhgibpaaGreatDoorWz6
import Derived.Test.YtfcpmapfhgibpaaGreatDoorWz
import Derived.Test.YtfcpmapfhgibpaaGreatDoorWy5
import Derived.Test.YtfcpmapfhgibpaaGreatDoorWf
set_option linter.unusedVariables false
set_option linter.unusedSimpArgs false
set_option maxRecDepth 1000000
namespace Go.Proofs.YtfcpmapfhgibpaaGreatDoor
noncomputable section
open Go Go.RowKit SX Frm Frn
theorem Hi.congr {F G : Mng} (h : Hi G) (he : ∀ f, f < 80 -> F f = G f) : Hi F :=
 ⟨⟨fun f hf => (he f (by omega)).trans (h.mid.low f hf), (he 61 (by decide)).trans h.mid.chk, (he 62 (by decide)).trans h.mid.ins, (he 63 (by decide)).trans h.mid.add⟩,
   (he 64 (by decide)).trans h.e64, (he 65 (by decide)).trans h.e65, (he 66 (by decide)).trans h.e66, (he 67 (by decide)).trans h.e67, (he 68 (by decide)).trans h.e68, (he 69 (by decide)).trans h.nx, (he 70 (by decide)).trans h.dc, (he 71 (by decide)).trans h.cd, (he 72 (by decide)).trans h.ms, (he 73 (by decide)).trans h.en, (he 74 (by decide)).trans h.df⟩
def nOf (a : Fam) : Nat := (a.nv - 23) / 6
theorem nOf_clA (n : Nat) : nOf (clA n) = n := by
 show (23 + 6 * n - 23) / 6 = n; omega
def rsA (a : Fam) : List Rule := if nOf a <= 8 then rulesAnn (nOf a) else []
def rsS (a : Fam) : List Rule := rulesSync (nOf a)
def rsD (a : Fam) : List Rule := rulesDec (nOf a)
theorem rsA_at {t : Nat} (h : t <= 8) : rsA (clA t) = rulesAnn t := by
 unfold rsA; rw [nOf_clA, if_pos h]
theorem rsA_ok {F : Mng} (h : Hi F) (ns : List Int) (a : Fam) : ∀ r ∈ rsA a, RuleOk (envOf F ns) r := fun r hr => by
 unfold rsA at hr; split at hr
 ·rename_i h8; exact rulesAnn_ok (ρ := envOf F ns) h.mid.low h.df h8 r hr
 ·cases hr
theorem gA_all {n : Nat} (h : 1 <= n) (h' : n <= 8) : clAnn.good 6 (rulesAnn n) (clA n) (clAnn.tree callK (clA n)) = true := by8 (p := fun n => clAnn.good 6 (rulesAnn n) (clA n) (clAnn.tree callK (clA n)) = true) gA1 gA2 gA3 gA4 gA5 gA6 gA7 gA8 h h'
def nm80 : Mng := fun f => if f = 80 then methN clK nm72 callK clAnn else nm72 f
theorem but80 : But 80 nm80 nm72 := fun f hf => if_neg hf
theorem hi80 : Hi nm80 := hi72.congr fun f hf => but80 f (by omega)
theorem meth80 : MethOk Tryz.prog (TabsIn tabs2) nm80 5 6 clAnn :=
 meth_ok (K := clK) (G := nm72) (call := callK) (rs := rsA) clK_ok but80 hi80.mid.low (if_pos rfl) (fun ns w φ hT => callK_ok hi80 ns w φ hT) (fun a ns => rsA_ok hi80 ns a) fun t a h => by
  obtain ⟨h1, h8, rfl⟩ := fam_n h; rw [rsA_at h8]; exact gA_all h1 h8
theorem gD_all {n : Nat} (h : 1 <= n) (h' : n <= 8) : clDec.good 6 (rulesDec n) (clA n) (clDec.m.tree callK (clA n)) = true := by8 (p := fun n => clDec.good 6 (rulesDec n) (clA n) (clDec.m.tree callK (clA n)) = true) gD1 gD2 gD3 gD4 gD5 gD6 gD7 gD8 h h'
def nm82 : Mng := fun f => if f = 82 then methNS clK nm80 callK clDec else if f = 83 then methNC clK nm80 callK clDec else nm80 f
theorem but82 : But2 82 nm82 nm80 := fun f h1 h2 => (if_neg h1).trans (if_neg h2)
theorem hi82 : Hi nm82 := hi80.congr fun f hf => but82 f (by omega) (by omega)
theorem meth82 : MethSOk Tryz.prog (TabsIn tabs2) nm82 5 6 clDec :=
 methS_ok (K := clK) (G := nm80) (call := callK) (rs := rsD) clK_ok but82 hi82.mid.low (if_pos rfl) ((if_neg (by decide)).trans (if_pos rfl)) (fun ns w φ hT => callK_ok hi82 ns w φ hT) (fun a ns => rulesDec_ok (ρ := envOf nm82 ns) hi82.mid.low hi82.dc hi82.cd hi82.ms (nOf a)) fun t a h => by
  obtain ⟨h1, h8, rfl⟩ := fam_n h; rw [show rsD (clA t) = rulesDec t by unfold rsD; rw [nOf_clA]]; exact gD_all h1 h8
theorem gS_all {n : Nat} (h : 1 <= n) (h' : n <= 8) : clSync.good 6 (rulesSync n) (clA n) (clSync.tree callK (clA n)) = true := by8 (p := fun n => clSync.good 6 (rulesSync n) (clA n) (clSync.tree callK (clA n)) = true) gS1 gS2 gS3 gS4 gS5 gS6 gS7 gS8 h h'
def nm84 : Mng := fun f => if f = 84 then methN clK nm82 callK clSync else nm82 f
theorem but84 : But 84 nm84 nm82 := fun f hf => if_neg hf
theorem hi84 : Hi nm84 := hi82.congr fun f hf => but84 f (by omega)
theorem meth84 : MethOk Tryz.prog (TabsIn tabs2) nm84 5 6 clSync :=
 meth_ok (K := clK) (G := nm82) (call := callK) (rs := rsS) clK_ok but84 hi84.mid.low (if_pos rfl) (fun ns w φ hT => callK_ok hi84 ns w φ hT) (fun a ns => rulesSync_ok (ρ := envOf nm84 ns) hi84.mid.low hi84.nx (nOf a)) fun t a h => by
  obtain ⟨h1, h8, rfl⟩ := fam_n h; rw [show rsS (clA t) = rulesSync t by unfold rsS; rw [nOf_clA]]; exact gS_all h1 h8
theorem gQ_all {n : Nat} (h : 1 <= n) (h' : n <= 8) : clReq.good 6 [] (clA n) (clReq.tree callK (clA n)) = true := by8 (p := fun n => clReq.good 6 [] (clA n) (clReq.tree callK (clA n)) = true) gQ1 gQ2 gQ3 gQ4 gQ5 gQ6 gQ7 gQ8 h h'
def nm86 : Mng := fun f => if f = 86 then methN clK nm84 callK clReq else nm84 f
theorem but86 : But 86 nm86 nm84 := fun f hf => if_neg hf
theorem hi86 : Hi nm86 := hi84.congr fun f hf => but86 f (by omega)
theorem meth86 : MethOk Tryz.prog (TabsIn tabs2) nm86 5 6 clReq :=
 meth_ok (K := clK) (G := nm84) (call := callK) (rs := fun _ => []) clK_ok but86 hi86.mid.low (if_pos rfl) (fun ns w φ hT => callK_ok hi86 ns w φ hT) (fun _ _ _ hr => by cases hr) fun t a h => by
  obtain ⟨h1, h8, rfl⟩ := fam_n h; exact gQ_all h1 h8
theorem gP_all {n : Nat} (h : 1 <= n) (h' : n <= 8) : clResp.good 6 (rulesSync n) (clA n) (clResp.tree callK (clA n)) = true := by8 (p := fun n => clResp.good 6 (rulesSync n) (clA n) (clResp.tree callK (clA n)) = true) gP1 gP2 gP3 gP4 gP5 gP6 gP7 gP8 h h'
def nm88 : Mng := fun f => if f = 88 then methN clK nm86 callK clResp else nm86 f
theorem but88 : But 88 nm88 nm86 := fun f hf => if_neg hf
theorem hi88 : Hi nm88 := hi86.congr fun f hf => but88 f (by omega)
theorem meth88 : MethOk Tryz.prog (TabsIn tabs2) nm88 5 6 clResp :=
 meth_ok (K := clK) (G := nm86) (call := callK) (rs := rsS) clK_ok but88 hi88.mid.low (if_pos rfl) (fun ns w φ hT => callK_ok hi88 ns w φ hT) (fun a ns => rulesSync_ok (ρ := envOf nm88 ns) hi88.mid.low hi88.nx (nOf a)) fun t a h => by
  obtain ⟨h1, h8, rfl⟩ := fam_n h; rw [show rsS (clA t) = rulesSync t by unfold rsS; rw [nOf_clA]]; exact gP_all h1 h8
theorem gO_all {n : Nat} (h : 1 <= n) (h' : n <= 8) : clOff.good 6 [] (clA n) (clOff.tree callK (clA n)) = true := by8 (p := fun n => clOff.good 6 [] (clA n) (clOff.tree callK (clA n)) = true) gO1 gO2 gO3 gO4 gO5 gO6 gO7 gO8 h h'
def nm90 : Mng := fun f => if f = 90 then methN clK nm88 callK clOff else nm88 f
theorem but90 : But 90 nm90 nm88 := fun f hf => if_neg hf
theorem hi90 : Hi nm90 := hi88.congr fun f hf => but90 f (by omega)
theorem meth90 : MethOk Tryz.prog (TabsIn tabs2) nm90 5 6 clOff :=
 meth_ok (K := clK) (G := nm88) (call := callK) (rs := fun _ => []) clK_ok but90 hi90.mid.low (if_pos rfl) (fun ns w φ hT => callK_ok hi90 ns w φ hT) (fun _ _ _ hr => by cases hr) fun t a h => by
  obtain ⟨h1, h8, rfl⟩ := fam_n h; exact gO_all h1 h8
theorem gE_all {n : Nat} (h : 1 <= n) (h' : n <= 8) : clSend.good 6 [] (clA n) (clSend.m.tree callK (clA n)) = true := by8 (p := fun n => clSend.good 6 [] (clA n) (clSend.m.tree callK (clA n)) = true) gE1 gE2 gE3 gE4 gE5 gE6 gE7 gE8 h h'
def nm92 : Mng := fun f => if f = 92 then methNS clK nm90 callK clSend else if f = 93 then methNC clK nm90 callK clSend else nm90 f
theorem but92 : But2 92 nm92 nm90 := fun f h1 h2 => (if_neg h1).trans (if_neg h2)
theorem hi92 : Hi nm92 := hi90.congr fun f hf => but92 f (by omega) (by omega)
theorem meth92 : MethSOk Tryz.prog (TabsIn tabs2) nm92 5 6 clSend :=
 methS_ok (K := clK) (G := nm90) (call := callK) (rs := fun _ => []) clK_ok but92 hi92.mid.low (if_pos rfl) ((if_neg (by decide)).trans (if_pos rfl)) (fun ns w φ hT => callK_ok hi92 ns w φ hT) (fun _ _ _ hr => by cases hr) fun t a h => by
  obtain ⟨h1, h8, rfl⟩ := fam_n h; exact gE_all h1 h8
structure Top (F : Mng) : Prop where
 hi : Hi F
 e80 : F 80 = nm80 80
 e82 : F 82 = nm82 82
 e83 : F 83 = nm82 83
 e84 : F 84 = nm84 84
 e86 : F 86 = nm86 86
 e88 : F 88 = nm88 88
 e90 : F 90 = nm90 90
 e92 : F 92 = nm92 92
 e93 : F 93 = nm92 93
 e94 : F 94 = nmSt
 e96 : F 96 = nmPar
def nm96 : Mng := fun f => if f = 94 then nmSt else if f = 96 then nmPar else nm92 f
theorem but96 : ∀ f, f < 94 -> nm96 f = nm92 f := fun f hf => (if_neg (by omega)).trans (if_neg (by omega))
theorem top96 : Top nm96 := by
 have a92 : ∀ f, f < 92 -> nm92 f = nm90 f := fun f hf => but92 f (by omega) (by omega)
 have a90 : ∀ f, f < 90 -> nm90 f = nm88 f := fun f hf => but90 f (by omega)
 have a88 : ∀ f, f < 88 -> nm88 f = nm86 f := fun f hf => but88 f (by omega)
 have a86 : ∀ f, f < 86 -> nm86 f = nm84 f := fun f hf => but86 f (by omega)
 have a84 : ∀ f, f < 84 -> nm84 f = nm82 f := fun f hf => but84 f (by omega)
 have a82 : ∀ f, f < 82 -> nm82 f = nm80 f := fun f hf => but82 f (by omega) (by omega)
 have b90 : ∀ f, f < 92 -> nm96 f = nm90 f := fun f hf => (but96 f (by omega)).trans (a92 f hf)
 have b88 : ∀ f, f < 90 -> nm96 f = nm88 f := fun f hf => (b90 f (by omega)).trans (a90 f hf)
 have b86 : ∀ f, f < 88 -> nm96 f = nm86 f := fun f hf => (b88 f (by omega)).trans (a88 f hf)
 have b84 : ∀ f, f < 86 -> nm96 f = nm84 f := fun f hf => (b86 f (by omega)).trans (a86 f hf)
 have b82 : ∀ f, f < 84 -> nm96 f = nm82 f := fun f hf => (b84 f (by omega)).trans (a84 f hf)
 have b80 : ∀ f, f < 82 -> nm96 f = nm80 f := fun f hf => (b82 f (by omega)).trans (a82 f hf)
 exact ⟨hi92.congr fun f hf => but96 f (by omega), b80 80 (by decide), b82 82 (by decide), b82 83 (by decide), b84 84 (by decide), b86 86 (by decide), b88 88 (by decide), b90 90 (by decide), but96 92 (by decide), but96 93 (by decide), if_pos rfl, (if_neg (by decide)).trans (if_pos rfl)⟩
section
variable {F : Mng}
theorem Top.ann (h : Top F) : MethOk Tryz.prog (TabsIn tabs2) F 5 6 clAnn := MethOk.congr h.e80 meth80
theorem Top.dec (h : Top F) : MethSOk Tryz.prog (TabsIn tabs2) F 5 6 clDec := MethSOk.congr h.e82 h.e83 meth82
theorem Top.sync (h : Top F) : MethOk Tryz.prog (TabsIn tabs2) F 5 6 clSync := MethOk.congr h.e84 meth84
theorem Top.req (h : Top F) : MethOk Tryz.prog (TabsIn tabs2) F 5 6 clReq := MethOk.congr h.e86 meth86
theorem Top.resp (h : Top F) : MethOk Tryz.prog (TabsIn tabs2) F 5 6 clResp := MethOk.congr h.e88 meth88
theorem Top.off (h : Top F) : MethOk Tryz.prog (TabsIn tabs2) F 5 6 clOff := MethOk.congr h.e90 meth90
theorem Top.send (h : Top F) : MethSOk Tryz.prog (TabsIn tabs2) F 5 6 clSend := MethSOk.congr h.e92 h.e93 meth92
theorem Top.stat (h : Top F) : GetOk Tryz.prog (TabsIn tabs2) F 5 clState := st_get h.hi h.e94
theorem Top.par (h : Top F) : GetOk Tryz.prog (TabsIn tabs2) F 5 clPar := par_get h.hi h.e96
end
theorem dL1 : DecL 1 := dec_loop dI1 (fun k h => match k, h with | 0, _ => dA1_0 | k + 1, h => absurd h (by omega)) (fun v => match v with | true => dX1_t | false => dX1_f) (fun k h i h' => match k, h, i, h' with | 0, _, 0, _ => dB1_0_0 | 1, _, 0, _ => dB1_1_0 | 0, _, i + 1, h => absurd h (by omega) | 1, _, i + 1, h => absurd h (by omega) | i + 2, h, _, _ => absurd h (by omega)) (fun k h => match k, h with | 0, _ => dE1_0 | 1, _ => dE1_1 | k + 2, h => absurd h (by omega))
theorem dL2 : DecL 2 := dec_loop dI2 (fun k h => match k, h with | 0, _ => dA2_0 | 1, _ => dA2_1 | k + 2, h => absurd h (by omega)) (fun v => match v with | true => dX2_t | false => dX2_f) (fun k h i h' => match k, h, i, h' with | 0, _, 0, _ => dB2_0_0 | 0, _, 1, _ => dB2_0_1 | 1, _, 0, _ => dB2_1_0 | 1, _, 1, _ => dB2_1_1 | 0, _, i + 2, h => absurd h (by omega) | 1, _, i + 2, h => absurd h (by omega) | i + 2, h, _, _ => absurd h (by omega)) (fun k h => match k, h with | 0, _ => dE2_0 | 1, _ => dE2_1 | k + 2, h => absurd h (by omega))
theorem dL3 : DecL 3 := dec_loop dI3 (fun k h => match k, h with | 0, _ => dA3_0 | 1, _ => dA3_1 | 2, _ => dA3_2 | k + 3, h => absurd h (by omega)) (fun v => match v with | true => dX3_t | false => dX3_f) (fun k h i h' => match k, h, i, h' with | 0, _, 0, _ => dB3_0_0 | 0, _, 1, _ => dB3_0_1 | 0, _, 2, _ => dB3_0_2 | 1, _, 0, _ => dB3_1_0 | 1, _, 1, _ => dB3_1_1 | 1, _, 2, _ => dB3_1_2 | 0, _, i + 3, h => absurd h (by omega) | 1, _, i + 3, h => absurd h (by omega) | i + 2, h, _, _ => absurd h (by omega)) (fun k h => match k, h with | 0, _ => dE3_0 | 1, _ => dE3_1 | k + 2, h => absurd h (by omega))
theorem dL4 : DecL 4 := dec_loop dI4 (fun k h => match k, h with | 0, _ => dA4_0 | 1, _ => dA4_1 | 2, _ => dA4_2 | 3, _ => dA4_3 | k + 4, h => absurd h (by omega)) (fun v => match v with | true => dX4_t | false => dX4_f) (fun k h i h' => match k, h, i, h' with | 0, _, 0, _ => dB4_0_0 | 0, _, 1, _ => dB4_0_1 | 0, _, 2, _ => dB4_0_2 | 0, _, 3, _ => dB4_0_3 | 1, _, 0, _ => dB4_1_0 | 1, _, 1, _ => dB4_1_1 | 1, _, 2, _ => dB4_1_2 | 1, _, 3, _ => dB4_1_3 | 0, _, i + 4, h => absurd h (by omega) | 1, _, i + 4, h => absurd h (by omega) | i + 2, h, _, _ => absurd h (by omega)) (fun k h => match k, h with | 0, _ => dE4_0 | 1, _ => dE4_1 | k + 2, h => absurd h (by omega))
theorem dL5 : DecL 5 := dec_loop dI5 (fun k h => match k, h with | 0, _ => dA5_0 | 1, _ => dA5_1 | 2, _ => dA5_2 | 3, _ => dA5_3 | 4, _ => dA5_4 | k + 5, h => absurd h (by omega)) (fun v => match v with | true => dX5_t | false => dX5_f) (fun k h i h' => match k, h, i, h' with | 0, _, 0, _ => dB5_0_0 | 0, _, 1, _ => dB5_0_1 | 0, _, 2, _ => dB5_0_2 | 0, _, 3, _ => dB5_0_3 | 0, _, 4, _ => dB5_0_4 | 1, _, 0, _ => dB5_1_0 | 1, _, 1, _ => dB5_1_1 | 1, _, 2, _ => dB5_1_2 | 1, _, 3, _ => dB5_1_3 | 1, _, 4, _ => dB5_1_4 | 0, _, i + 5, h => absurd h (by omega) | 1, _, i + 5, h => absurd h (by omega) | i + 2, h, _, _ => absurd h (by omega)) (fun k h => match k, h with | 0, _ => dE5_0 | 1, _ => dE5_1 | k + 2, h => absurd h (by omega))
theorem dL6 : DecL 6 := dec_loop dI6 (fun k h => match k, h with | 0, _ => dA6_0 | 1, _ => dA6_1 | 2, _ => dA6_2 | 3, _ => dA6_3 | 4, _ => dA6_4 | 5, _ => dA6_5 | k + 6, h => absurd h (by omega)) (fun v => match v with | true => dX6_t | false => dX6_f) (fun k h i h' => match k, h, i, h' with | 0, _, 0, _ => dB6_0_0 | 0, _, 1, _ => dB6_0_1 | 0, _, 2, _ => dB6_0_2 | 0, _, 3, _ => dB6_0_3 | 0, _, 4, _ => dB6_0_4 | 0, _, 5, _ => dB6_0_5 | 1, _, 0, _ => dB6_1_0 | 1, _, 1, _ => dB6_1_1 | 1, _, 2, _ => dB6_1_2 | 1, _, 3, _ => dB6_1_3 | 1, _, 4, _ => dB6_1_4 | 1, _, 5, _ => dB6_1_5 | 0, _, i + 6, h => absurd h (by omega) | 1, _, i + 6, h => absurd h (by omega) | i + 2, h, _, _ => absurd h (by omega)) (fun k h => match k, h with | 0, _ => dE6_0 | 1, _ => dE6_1 | k + 2, h => absurd h (by omega))
theorem dL7 : DecL 7 := dec_loop dI7 (fun k h => match k, h with | 0, _ => dA7_0 | 1, _ => dA7_1 | 2, _ => dA7_2 | 3, _ => dA7_3 | 4, _ => dA7_4 | 5, _ => dA7_5 | 6, _ => dA7_6 | k + 7, h => absurd h (by omega)) (fun v => match v with | true => dX7_t | false => dX7_f) (fun k h i h' => match k, h, i, h' with | 0, _, 0, _ => dB7_0_0 | 0, _, 1, _ => dB7_0_1 | 0, _, 2, _ => dB7_0_2 | 0, _, 3, _ => dB7_0_3 | 0, _, 4, _ => dB7_0_4 | 0, _, 5, _ => dB7_0_5 | 0, _, 6, _ => dB7_0_6 | 1, _, 0, _ => dB7_1_0 | 1, _, 1, _ => dB7_1_1 | 1, _, 2, _ => dB7_1_2 | 1, _, 3, _ => dB7_1_3 | 1, _, 4, _ => dB7_1_4 | 1, _, 5, _ => dB7_1_5 | 1, _, 6, _ => dB7_1_6 | 0, _, i + 7, h => absurd h (by omega) | 1, _, i + 7, h => absurd h (by omega) | i + 2, h, _, _ => absurd h (by omega)) (fun k h => match k, h with | 0, _ => dE7_0 | 1, _ => dE7_1 | k + 2, h => absurd h (by omega))
theorem dL8 : DecL 8 := dec_loop dI8 (fun k h => match k, h with | 0, _ => dA8_0 | 1, _ => dA8_1 | 2, _ => dA8_2 | 3, _ => dA8_3 | 4, _ => dA8_4 | 5, _ => dA8_5 | 6, _ => dA8_6 | 7, _ => dA8_7 | k + 8, h => absurd h (by omega)) (fun v => match v with | true => dX8_t | false => dX8_f) (fun k h i h' => match k, h, i, h' with | 0, _, 0, _ => dB8_0_0 | 0, _, 1, _ => dB8_0_1 | 0, _, 2, _ => dB8_0_2 | 0, _, 3, _ => dB8_0_3 | 0, _, 4, _ => dB8_0_4 | 0, _, 5, _ => dB8_0_5 | 0, _, 6, _ => dB8_0_6 | 0, _, 7, _ => dB8_0_7 | 1, _, 0, _ => dB8_1_0 | 1, _, 1, _ => dB8_1_1 | 1, _, 2, _ => dB8_1_2 | 1, _, 3, _ => dB8_1_3 | 1, _, 4, _ => dB8_1_4 | 1, _, 5, _ => dB8_1_5 | 1, _, 6, _ => dB8_1_6 | 1, _, 7, _ => dB8_1_7 | 0, _, i + 8, h => absurd h (by omega) | 1, _, i + 8, h => absurd h (by omega) | i + 2, h, _, _ => absurd h (by omega)) (fun k h => match k, h with | 0, _ => dE8_0 | 1, _ => dE8_1 | k + 2, h => absurd h (by omega))
theorem dL_all {n : Nat} (h : 1 <= n) (h' : n <= 8) : DecL n := by8 (p := DecL) dL1 dL2 dL3 dL4 dL5 dL6 dL7 dL8 h h'
theorem rulesDecR_ok {ρ : Env} (hl : Low ρ.fn) (h70 : ρ.fn 70 = decI) (h71 : ρ.fn 71 = cdI) (h72 : ρ.fn 72 = msI) (n : Nat) : ∀ r ∈ rulesDecR n, RuleOk ρ r := fun r hr => by
 rcases List.mem_append.1 hr with hr | hr
 ·obtain ⟨i, hi, rfl⟩ := List.mem_map.1 hr
  exact forgRu_ok hl _ _
 ·simp only [mCo, List.not_mem_nil, or_false] at hr
  rcases hr with rfl | rfl | rfl
  ·exact followRu_ok hl h72 n _
  ·exact stsRu_ok hl h70 h71 n _ _ _
  ·exact stsRu_ok hl h70 h71 n _ _ _
theorem hasP_ok {ρ : Env} {σ : Nat -> E} (p : E × Bool) : ((hasP σ p).1.ev ρ ≠ 0 ↔ (hasP σ p).2 = true) ↔ (p.1.ev (envSub ρ σ) ≠ 0 ↔ p.2 = true) := by
 unfold hasP; split
 ·rename_i hc
  rw [hc, eq0_ev, lit_ev]; show ((σ 3).ev ρ = 0 ↔ (!p.2) = true) ↔ ((σ 3).ev ρ ≠ 0 ↔ p.2 = true); cases p.2 <;> simp
 ·rw [E.sub_ev]
theorem subR_ok {ρ : Env} {σ : Nat -> E} {r : Rule} (h : RuleOk (envSub ρ σ) r) : RuleOk ρ (subR σ r) := fun hp q hq => by
 obtain ⟨q0, hq0, rfl⟩ := List.mem_map.1 hq; show ((q0.1.sub σ).ev ρ ≠ 0 ↔ q0.2 = true); rw [E.sub_ev]; exact h (fun p hpm => (hasP_ok p).1 (hp _ (List.mem_map.2 ⟨p, hpm, rfl⟩))) q0 hq0
theorem decRu_ok {ρ : Env} (h69 : ρ.fn 69 = nm69 69) (h70 : ρ.fn 70 = decI) (n k j : Nat) : ∀ r ∈ decRu n k j, RuleOk ρ r := fun r hr => by
 obtain ⟨r0, hr0, rfl⟩ := List.mem_map.1 hr; exact subR_ok (decRules_ok (ρ := envSub ρ fun v => (decD n k j).getD v (.lit 0)) h69 h70 r0 hr0)
theorem band0 {ρ : Env} {a b : E} (h : a.ev ρ = 0 \/ b.ev ρ = 0) : (E.bin .band .i64 a b).ev ρ = 0 := by
 show (if a.ev ρ ≠ 0 /\ b.ev ρ ≠ 0 then (1 : Int) else 0) = 0
 rw [if_neg]
 rintro ⟨h1, h2⟩
 rcases h with h | h
 ·exact h1 h
 ·exact h2 h
theorem nsRu_ok {ρ : Env} (n : Nat) : ∀ r ∈ nsRu n, RuleOk ρ r := fun r hr => by
 have key : ∀ c : E, SX.FsOk ρ [(c, false)] ↔ c.ev ρ = 0 := fun c => by
  rw [fsOk_cons]; exact ⟨fun h => Decidable.not_not.1 fun hc => Bool.noConfusion (h.1.1 hc), fun h => ⟨⟨fun hc => absurd h hc, fun hc => Bool.noConfusion hc⟩, fun _ h => by cases h⟩⟩
 simp only [nsRu, mCo, List.not_mem_nil, or_false] at hr; rcases hr with rfl | rfl | rfl <;> intro hp <;> refine (key _).2 ?_ <;> have hp := (key _).1 hp
 ·exact band0 (.inl hp)
 ·exact band0 (.inr (band0 (.inl hp)))
 ·exact band0 (.inr (band0 (.inr hp)))
def rsDR (a : Fam) : List Rule := rulesDecR (nOf a)
theorem dec_body : Tryz.f31.body = some decCode := by kernel_rfl
theorem meth82R : MethSOk Tryz.prog (TabsIn tabs2) nm82 6 6 rcDec :=
 loopS_ok (m := clDec) (m' := rcDec) (K := clK) (K' := clKR) (G := nm80) (call := callK) (call' := callKR) (keep := noKeep 31) (fuel := 80) (C := decCode) (fn := Tryz.f31) (rs := rsDR) (cuts := dCs) (rs0 := fun _ => []) mixed Tryz.func31 dec_body clKR_ok rfl rfl rfl but82 hi82.mid.low (if_pos rfl) ((if_neg (by decide)).trans (if_pos rfl))
  (fun ρ hρ gl w φ hT => fun f args hp fs β w1 Q hh hf ha _ hg => callH_run (gl := []) (keep := noKeep) (fuel := 80) mixed okF_ok (spCR_ok (ρ := ρ) (by rw [hρ]; exact hi82) hT) 30 f args hp fs β w1 Q hh hf ha (fun _ h => by cases h) hg) (fun ρ hρ a => rulesDecR_ok (by rw [hρ]; exact hi82.mid.low) (by rw [hρ]; exact hi82.dc) (by rw [hρ]; exact hi82.cd) (by rw [hρ]; exact hi82.ms) (nOf a)) (fun _ _ _ _ hr => by cases hr)
  (fun ρ hρ t c hc u hu r hr => by
   simp only [dCs, mCo, List.not_mem_nil, or_false] at hc; rcases hc with rfl | rfl
   ·obtain ⟨i, hi, rfl⟩ := List.mem_map.1 (show u ∈ (List.range (t + 1)).map (d1T t) from hu)
    have hr : r ∈ (if i < t then [] else nsRu t) := hr
    split at hr
    ·cases hr
    ·exact nsRu_ok t r hr
   ·obtain ⟨i, hi, hu⟩ := List.mem_flatMap.1 (show u ∈ d2Ts t from hu)
    have key : ∀ k, r ∈ (d2T t k i).rs -> RuleOk ρ r := fun k hr => by
     have hr : r ∈ (if i < t then decRu t k i else []) := hr
     split at hr
     ·exact decRu_ok (by rw [hρ]; exact hi82.nx) (by rw [hρ]; exact hi82.dc) t k i r hr
     ·cases hr
    simp only [mCo, List.not_mem_nil, or_false] at hu; rcases hu with rfl | rfl
    ·exact key 0 hr
    ·exact key 1 hr)
  fun t a' h => by
   obtain ⟨h1, h8, rfl⟩ := fam_nR h; refine ⟨clA t, 6, rulesDec t, fam_t h1 h8, gD_all h1 h8, ?_⟩; rw [show rsDR (clAR t) = rulesDecR t by unfold rsDR; rw [show nOf (clAR t) = t by show (23 + 6 * t - 23) / 6 = t; omega]]
   exact dL_all h1 h8
theorem nOf_clAR (n : Nat) : nOf (clAR n) = n := by
 show (23 + 6 * n - 23) / 6 = n; omega
def rsAR (a : Fam) : List Rule := if nOf a <= 8 then rulesAnnR (nOf a) else []
theorem rsAR_ok {F : Mng} (h : Hi F) (ns : List Int) (a : Fam) : ∀ r ∈ rsAR a, RuleOk (envOf F ns) r := fun r hr => by
 unfold rsAR at hr; split at hr
 ·rename_i h8; exact rulesAnnR_ok (ρ := envOf F ns) h.mid.low h.df h8 r hr
 ·cases hr
theorem twin_at {n : Nat} {rs : List Rule} {m m' : Meth} (h : twinB n rs m m' = true) : m'.good 6 rs (clAR n) (m'.tree callKR (clAR n)) = true /\ sameB (clA n) (clAR n) (leafE m.rs) (leafE m.rs) [] (m'.tree callKR (clAR n)) (m.tree callK (clA n)) = true := by
 unfold twinB at h; rw [bAnd] at h; exact h
theorem hA_all {n : Nat} (h : 1 <= n) (h' : n <= 8) : twinB n (rulesAnnR n) clAnn rcAnn = true := by8 (p := fun n => twinB n (rulesAnnR n) clAnn rcAnn = true) hA1 hA2 hA3 hA4 hA5 hA6 hA7 hA8 h h'
theorem meth80R : MethOk Tryz.prog (TabsIn tabs2) nm80 6 6 rcAnn :=
 twin_ok (m := clAnn) (K := clK) (K' := clKR) (G := nm72) (call := callK) (call' := callKR) (rs := rsAR) clKR_ok rfl rfl rfl but80 hi80.mid.low (if_pos rfl) (fun ns w φ hT => callKR_ok hi80 ns w φ hT) (fun a ns => rsAR_ok hi80 ns a) fun t a h => by
  obtain ⟨h1, h8, rfl⟩ := fam_nR h; obtain ⟨a1, a2⟩ := twin_at (hA_all h1 h8); refine ⟨?_, clA t, 6, rulesAnn t, fam_t h1 h8, rfl, gA_all h1 h8, a2⟩; rw [show rsAR (clAR t) = rulesAnnR t by unfold rsAR; rw [nOf_clAR, if_pos h8]]
  exact a1
theorem hS_all {n : Nat} (h : 1 <= n) (h' : n <= 8) : twinB n (rulesSync n) clSync rcSync = true := by8 (p := fun n => twinB n (rulesSync n) clSync rcSync = true) hS1 hS2 hS3 hS4 hS5 hS6 hS7 hS8 h h'
theorem meth84R : MethOk Tryz.prog (TabsIn tabs2) nm84 6 6 rcSync :=
 twin_ok (m := clSync) (K := clK) (K' := clKR) (G := nm82) (call := callK) (call' := callKR) (rs := rsS) clKR_ok rfl rfl rfl but84 hi84.mid.low (if_pos rfl) (fun ns w φ hT => callKR_ok hi84 ns w φ hT) (fun a ns => rulesSync_ok (ρ := envOf nm84 ns) hi84.mid.low hi84.nx (nOf a)) fun t a h => by
  obtain ⟨h1, h8, rfl⟩ := fam_nR h; obtain ⟨a1, a2⟩ := twin_at (hS_all h1 h8); refine ⟨?_, clA t, 6, rulesSync t, fam_t h1 h8, rfl, gS_all h1 h8, a2⟩; rw [show rsS (clAR t) = rulesSync t by unfold rsS; rw [nOf_clAR]]
  exact a1
theorem hP_all {n : Nat} (h : 1 <= n) (h' : n <= 8) : twinB n (rulesSync n) clResp rcResp = true := by8 (p := fun n => twinB n (rulesSync n) clResp rcResp = true) hP1 hP2 hP3 hP4 hP5 hP6 hP7 hP8 h h'
theorem meth88R : MethOk Tryz.prog (TabsIn tabs2) nm88 6 6 rcResp :=
 twin_ok (m := clResp) (K := clK) (K' := clKR) (G := nm86) (call := callK) (call' := callKR) (rs := rsS) clKR_ok rfl rfl rfl but88 hi88.mid.low (if_pos rfl) (fun ns w φ hT => callKR_ok hi88 ns w φ hT) (fun a ns => rulesSync_ok (ρ := envOf nm88 ns) hi88.mid.low hi88.nx (nOf a)) fun t a h => by
  obtain ⟨h1, h8, rfl⟩ := fam_nR h; obtain ⟨a1, a2⟩ := twin_at (hP_all h1 h8); refine ⟨?_, clA t, 6, rulesSync t, fam_t h1 h8, rfl, gP_all h1 h8, a2⟩; rw [show rsS (clAR t) = rulesSync t by unfold rsS; rw [nOf_clAR]]
  exact a1
theorem hQ_all {n : Nat} (h : 1 <= n) (h' : n <= 8) : twinB n [] clReq rcReq = true := by8 (p := fun n => twinB n [] clReq rcReq = true) hQ1 hQ2 hQ3 hQ4 hQ5 hQ6 hQ7 hQ8 h h'
theorem meth86R : MethOk Tryz.prog (TabsIn tabs2) nm86 6 6 rcReq :=
 twin_ok (m := clReq) (K := clK) (K' := clKR) (G := nm84) (call := callK) (call' := callKR) (rs := fun _ => []) clKR_ok rfl rfl rfl but86 hi86.mid.low (if_pos rfl) (fun ns w φ hT => callKR_ok hi86 ns w φ hT) (fun _ _ _ hr => by cases hr) fun t a h => by
  obtain ⟨h1, h8, rfl⟩ := fam_nR h; obtain ⟨a1, a2⟩ := twin_at (hQ_all h1 h8); exact ⟨a1, clA t, 6, [], fam_t h1 h8, rfl, gQ_all h1 h8, a2⟩
theorem hO_all {n : Nat} (h : 1 <= n) (h' : n <= 8) : twinB n [] clOff rcOff = true := by8 (p := fun n => twinB n [] clOff rcOff = true) hO1 hO2 hO3 hO4 hO5 hO6 hO7 hO8 h h'
theorem meth90R : MethOk Tryz.prog (TabsIn tabs2) nm90 6 6 rcOff :=
 twin_ok (m := clOff) (K := clK) (K' := clKR) (G := nm88) (call := callK) (call' := callKR) (rs := fun _ => []) clKR_ok rfl rfl rfl but90 hi90.mid.low (if_pos rfl) (fun ns w φ hT => callKR_ok hi90 ns w φ hT) (fun _ _ _ hr => by cases hr) fun t a h => by
  obtain ⟨h1, h8, rfl⟩ := fam_nR h; obtain ⟨a1, a2⟩ := twin_at (hO_all h1 h8); exact ⟨a1, clA t, 6, [], fam_t h1 h8, rfl, gO_all h1 h8, a2⟩
theorem hG_all {n : Nat} (h : 1 <= n) (h' : n <= 8) : rcSend.good 6 [] (clAR n) (sndTR n) = true := by8 (p := fun n => rcSend.good 6 [] (clAR n) (sndTR n) = true) hG1 hG2 hG3 hG4 hG5 hG6 hG7 hG8 h h'
theorem hE_all {n : Nat} (h : 1 <= n) (h' : n <= 8) : allC (sndS n) [] (sndTP n) = true := by8 (p := fun n => allC (sndS n) [] (sndTP n) = true) hE1 hE2 hE3 hE4 hE5 hE6 hE7 hE8 h h'
theorem meth92R : MethSOk Tryz.prog (TabsIn tabs2) nm92 6 6 rcSend :=
 twinS_ok (m := clSend) (K := clK) (K' := clKR) (G := nm90) (call := callK) (call' := callKR) (rs := fun _ => []) clKR_ok rfl rfl rfl but92 hi92.mid.low (if_pos rfl) ((if_neg (by decide)).trans (if_pos rfl)) (fun ns w φ hT => callKR_ok hi92 ns w φ hT) (fun _ _ _ hr => by cases hr) fun t a h => by
  obtain ⟨h1, h8, rfl⟩ := fam_nR h; exact ⟨hG_all h1 h8, clA t, 6, [], fam_t h1 h8, rfl, gE_all h1 h8, sndS_all (hE_all h1 h8)⟩
section
variable {F : Mng}
theorem Top.annR (h : Top F) : MethOk Tryz.prog (TabsIn tabs2) F 6 6 rcAnn := MethOk.congr h.e80 meth80R
theorem Top.decR (h : Top F) : MethSOk Tryz.prog (TabsIn tabs2) F 6 6 rcDec := MethSOk.congr h.e82 h.e83 meth82R
theorem Top.syncR (h : Top F) : MethOk Tryz.prog (TabsIn tabs2) F 6 6 rcSync := MethOk.congr h.e84 meth84R
theorem Top.reqR (h : Top F) : MethOk Tryz.prog (TabsIn tabs2) F 6 6 rcReq := MethOk.congr h.e86 meth86R
theorem Top.respR (h : Top F) : MethOk Tryz.prog (TabsIn tabs2) F 6 6 rcResp := MethOk.congr h.e88 meth88R
theorem Top.offR (h : Top F) : MethOk Tryz.prog (TabsIn tabs2) F 6 6 rcOff := MethOk.congr h.e90 meth90R
theorem Top.sendR (h : Top F) : MethSOk Tryz.prog (TabsIn tabs2) F 6 6 rcSend := MethSOk.congr h.e92 h.e93 meth92R
theorem Top.statR (h : Top F) : GetOk Tryz.prog (TabsIn tabs2) F 6 rcState := st_getR h.hi h.e94
theorem Top.parR (h : Top F) : GetOk Tryz.prog (TabsIn tabs2) F 6 rcPar := par_getR h.hi h.e96
end
def confSh : Sh := .agg [.int .u64, .int .i64, .int .i64, .int .i64, .int .i64, .int .i64, .int .i64, .int .i64, .int .i64, .int .i64, .int .i64]
def kB : Sm := ⟨6, 99, [confSh], [i1]⟩
def nm99 : Mng := fun f => if f = 99 then autoF nm96 kB.rs (smT kB) else nm96 f
theorem but99 : But 99 nm99 nm96 := fun f hf => if_neg hf
theorem good99 : (smT kB).good 99 kB.rs = true := by kernel_rfl
theorem sm99 (ρ : Env) (h : ρ.fn = nm99) (w : World) (M : Nat -> Prop) : SmOk Tryz.prog ρ w M kB :=
 smAuto (okF := okF) (sums := sumsN) (keep := noKeep) (fuel := 80) (n := 30) (G := nm96) mixed okF_ok but99 (fun ns w' _ => sums_none _ _ _ _) h (fun ns j => congrFun (congrFun (if_pos rfl : nm99 99 = autoF nm96 kB.rs (smT kB)) j) ns) good99
def cfF : Fs := confR ++ inF 1 8 7
def chkBEnd (o : Out) : Bool := match leafE [i1] o with
 | some [e] => (decideE o.fs (eq0 e (.lit 0)) == some false) || knows o.fs cfF
 | _ => false
theorem chkB_tree : (smT kB).all chkBEnd = true := by kernel_rfl
theorem chkB_facts {ns : List Int} (hns : shFits [confSh] ns) (h : nm99 99 0 ns = 0) : SX.FsOk (envOf nm99 ns) cfF := by
 obtain ⟨o, es, c1, c2, c3, c4, _⟩ := auto_at (s := kB) (chk := chkBEnd) mixed okF_ok but99 (fun ns => sums_none _ _ _ _) (fun ns j => congrFun (congrFun (if_pos rfl : nm99 99 = autoF nm96 kB.rs (smT kB)) j) ns) good99 chkB_tree hns
 unfold chkBEnd at c1; rw [show leafE [i1] o = some es from c3] at c1; split at c1
 ·rename_i e he
  obtain rfl := sinj he; have hv : nm99 99 0 ns = e.ev (envOf nm99 ns) := congrArg (fun l => l.headD 0) c4
  rw [bOr] at c1; rcases c1 with c1 | c1
  ·rw [beq_iff_eq] at c1
   exact absurd (hv.symm.trans h) (neq_of_decide c2 c1)
  ·exact knows_ok c2 c1
 ·cases c1
theorem Top.congr {F G : Mng} (h : Top G) (he : ∀ f, f < 99 -> F f = G f) : Top F :=
 ⟨h.hi.congr fun f hf => he f (by omega), (he 80 (by decide)).trans h.e80, (he 82 (by decide)).trans h.e82, (he 83 (by decide)).trans h.e83, (he 84 (by decide)).trans h.e84, (he 86 (by decide)).trans h.e86, (he 88 (by decide)).trans h.e88, (he 90 (by decide)).trans h.e90, (he 92 (by decide)).trans h.e92, (he 93 (by decide)).trans h.e93, (he 94 (by decide)).trans h.e94, (he 96 (by decide)).trans h.e96⟩
def cs6 : List E := [.var 0, .var 1, .var 2, .var 3, .var 4, .var 5]
def ownE : List E := [.var 1, .var 2, .var 3, .var 4, .var 5, .var 0, .lit 0, .var 0, .lit 0, .var 0, .lit 0]
theorem own_evs {ρ : Env} : E.evs ρ ownE = ownL (E.evs ρ cs6) := rfl
def newEs (n : Nat) : List E := ((List.range 11).map .var ++ ownE ++ [.lit 0]) ++ (List.range n).flatMap fun _ => [.lit 4, .lit 0, .lit 0, .lit 0, .app 45 0 [.var 8, .var 9], .app 73 0 [.var 6]]
def newN (j : Nat) (cs : List Int) : Int := codL (cs.getD 7 0 :: E.evs (envOf nm99 cs) (newEs (cs.getD 7 0).toNat))
def nm100 : Mng := fun f => if f = 100 then newN else nm99 f
theorem top99 : Top nm99 := by
 have b : ∀ f, f < 99 -> nm99 f = nm96 f := fun f hf => but99 f (by omega)
 exact top96.congr b
def sumsB : Sums := sumsOf [kB]
def spNw : SpcT := orT (ofSpc (orSpec spExNew (sumSpec sumsB))) spM
def callN : Caller := callH Tryz.prog (tabGl tabs2 0) okF spNw noKeep 80 30
def ruOne (e : E) : Rule := ⟨[], [oneF e]⟩
def newRus (n : Nat) : List Rule := [ruOne (.app 58 0 (cs6 ++ ownE)), ruOne (.app 59 0 (List.replicate n (.lit 4))), ruOne (.app 57 0 [.app 45 0 [.var 8, .var 9], .var 0])]
def chk0 : E × Bool := (eq0 (.app 99 0 ((List.range 11).map .var)) (.lit 0), true)
def newFs (n : Nat) : Fs := chk0 :: (eq0 (.var 7) (litN n), true) :: (confR ++ varFacts [confSh] 0)
def newT (n : Nat) : T Out := callN 8 (varShs [confSh] 0) (tabHp tabs2) (newFs n)
def newLeaf (n : Nat) (o : Out) : Bool := makOk (newRus n) (clA n) o && E.beqs ((List.range (clA n).nv).map (makS (newRus n) (clA n) o)) (newEs n)
def nilT : T Out := callN 8 (varShs [confSh] 0) (tabHp tabs2) ((chk0.1, false) :: varFacts [confSh] 0)
def nilLeaf (o : Out) : Bool := match o.v with
 | .raw (.pointer none) => true
 | _ => false
theorem nil_tree : nilT.all nilLeaf = true := by kernel_rfl
theorem new1 : (newT 1).all (newLeaf 1) = true := by kernel_rfl
theorem new2 : (newT 2).all (newLeaf 2) = true := by kernel_rfl
theorem new3 : (newT 3).all (newLeaf 3) = true := by kernel_rfl
theorem new4 : (newT 4).all (newLeaf 4) = true := by kernel_rfl
theorem new5 : (newT 5).all (newLeaf 5) = true := by kernel_rfl
theorem new6 : (newT 6).all (newLeaf 6) = true := by kernel_rfl
theorem new7 : (newT 7).all (newLeaf 7) = true := by kernel_rfl
theorem new8 : (newT 8).all (newLeaf 8) = true := by kernel_rfl
theorem new_all {n : Nat} (h : 1 <= n) (h' : n <= 8) : (newT n).all (newLeaf n) = true := by8 (p := fun n => (newT n).all (newLeaf n) = true) new1 new2 new3 new4 new5 new6 new7 new8 h h'
theorem own_own (q : List Int) : followN q (ownL q) = 1 := followN_iff.2 (.inl rfl)
theorem evs_rep {ρ : Env} : ∀ n : Nat, E.evs ρ (List.replicate n (.lit 4)) = List.replicate n 4
 | 0 => rfl
 | n + 1 => by rw [List.replicate_succ, List.replicate_succ]; show (4 : Int) :: E.evs _ (List.replicate n (.lit 4)) = _; rw [evs_rep n]
theorem call_tab {P : Program} {ρ : Env} {tabs : Tabs} {w : World} {call : Caller} (hd : (tabs.map (·.1)).Nodup) (ht : TabsIn tabs w) (hc : CallOk P ρ w (fun _ => False) (tabGl tabs 0) call) {f : FuncId} {args : List SV} {fs : Fs} (hf : SX.FsOk ρ fs) (hargs : SV.oks ρ 0 args) {K : Value -> World -> Prop}
  (hg : Goes ρ w (fun _ => False) (tabB tabs) (tabHp tabs) (call f args (tabHp tabs) fs) K) : Calls P f (SV.evs ρ (tabB tabs) args).toArray w fun e w' => ∃ v, e = .returned v /\ K v w' :=
 (hc f args (tabHp tabs) fs (tabB tabs) w K (tab_heap hd ht _ ρ) hf (SV.oks_mono (Nat.zero_le _) _ hargs) (tab_gl (fun j p hj => by simp [tabB, hj]) (by simp [tabHp])) hg).2
theorem newRus_ok (cs : List Int) (n : Nat) : ∀ r ∈ newRus n, RuleOk (envOf nm99 cs) r := fun r hr => by
 have hl : Low nm99 := top99.hi.mid.low; simp only [newRus, mCo, List.not_mem_nil, or_false] at hr; rcases hr with rfl | rfl | rfl <;> refine fun _ => oneF_ok.2 ?_
 ·show nm99 58 0 _ = 1
  rw [hl 58 (by decide), evs_app, own_evs]
  show followN ((E.evs _ cs6 ++ ownL (E.evs _ cs6)).take 6) ((E.evs _ cs6 ++ ownL (E.evs _ cs6)).drop 6) = 1; exact own_own (E.evs (envOf nm99 cs) cs6)
 ·show nm99 59 0 _ = 1
  rw [hl 59 (by decide)]
  show stsN _ = 1; rw [evs_rep, stsN_iff]
  have hg : ∀ i, i < n -> (List.replicate n (4 : Int)).getD i 0 = 4 := fun i hi => by
   rw [gDe, List.getElem?_replicate, if_pos hi]; rfl
  refine ⟨fun i hi => ?_, fun i j hi hj h7 _ => ?_⟩
  ·rw [hg i (by simpa using hi)]; omega
  ·rw [hg i (by simpa using hi)] at h7; omega
 ·show nm99 57 0 [nm99 45 0 _, cs.getD 0 0] = 1
  rw [hl 57 (by decide), hl 45 (by decide)]
  show wellN (code (newS (cs.getD 8 0) (cs.getD 9 0))) (cs.getD 0 0) = 1; rw [wellN_iff, dec_code]; exact fun r hr => by cases hr
section
variable {cs : List Int} {w : World}
theorem callN_ok (cs : List Int) {w : World} (hT : TabsIn tabs2 w) : CallOk Tryz.prog (envOf nm99 cs) w (fun _ => False) (tabGl tabs2 0) callN := by
 have h := top99.hi; have hk : ∀ w', Kept w (fun _ => False) w' -> TabsIn tabs2 w' := fun w' hk => TabsIn.kept hT hk
 exact callH_run mixed okF_ok (orT_ok (ofSpc_ok (orSpec_ok (spExNew_ok h.en) (sumSpec_ok (sumsOf_ok fun s hs => by
  obtain rfl : s = kB := by simpa using hs
  exact sm99 (envOf nm99 cs) rfl w _)))) (spM_ok h.mid.low hk (sums41_all hk))) 30
theorem conf_ev {β : Bm} (hns : shFits [confSh] cs) (F : Mng) : SV.evs (envOf F cs) β (varShs [confSh] 0) = shVals [confSh] cs /\ SV.oks (envOf F cs) 0 (varShs [confSh] 0) /\ SX.FsOk (envOf F cs) (varFacts [confSh] 0) := by
 have h0 : shFits [confSh] (cs.drop 0) := by rwa [List.drop_zero]
 obtain ⟨v1, v2, v3⟩ := varShs_spec (F := F) (β := β) (n := 0) (hs := [confSh]) (i := 0) h0; rw [List.drop_zero] at v1; exact ⟨v1, v2, varFacts_ok h0⟩
theorem vars_self {cs : List Int} {n : Nat} (h : cs.length = n) : (List.range n).map (fun i => cs.getD i 0) = cs := by
 refine List.ext_getElem? fun i => ?_
 by_cases hi : i < n
 ·rw [lMp, lRa hi, lGe (by omega)]
  show some (cs.getD i 0) = _; rw [gDe, lGe (by omega)]; rfl
 ·rw [lNo (by simp; omega), lNo (by omega)]
theorem evs_vars (n : Nat) (F : Mng) : E.evs (envOf F cs) ((List.range n).map .var) = (List.range n).map fun i => cs.getD i 0 := range_evs n _
theorem nilLeaf_ev {o : Out} (ho : nilLeaf o = true) {ρ : Env} {β : Bm} : o.v.ev ρ β = .pointer none := by
 unfold nilLeaf at ho; split at ho
 ·rename_i hv; rw [hv]; rfl
 ·cases ho
def NewOk (f : FuncId) (q : Nat) : Prop := ∀ (cs : List Int) (w : World), shFits [confSh] cs -> cs.length = 11 -> TabsIn tabs2 w -> Calls Tryz.prog f (shVals [confSh] cs).toArray w fun e w' =>
 (nm99 99 0 cs ≠ 0 /\ e = .returned (.pointer none) /\ Below w.heap.size w w') \/ (nm99 99 0 cs = 0 /\ ∃ b φ, e = .returned (ptrV b) /\ Ob q [newN 0 cs] b φ w' /\ (∀ i, φ i -> w.heap.size <= i) /\ Below w.heap.size w w')
theorem newN_at {cs : List Int} {n : Nat} (hn : cs.getD 7 0 = (n : Int)) : newN 0 cs = codL ((n : Int) :: E.evs (envOf nm99 cs) (newEs n)) := by
 unfold newN; rw [hn, Int.toNat_natCast]
def newLeafF (a : Nat -> Fam) (n : Nat) (o : Out) : Bool := makOk (newRus n) (a n) o && E.beqs ((List.range (a n).nv).map (makS (newRus n) (a n) o)) (newEs n)
theorem newLeaf_ns {a : Nat -> Fam} {n : Nat} {o : Out} (h : E.beqs ((List.range (a n).nv).map (makS (newRus n) (a n) o)) (newEs n) = true) (cs : List Int) : makNs (newRus n) (a n) o (envOf nm99 cs) = E.evs (envOf nm99 cs) (newEs n) := by
 have := congrArg (E.evs (envOf nm99 cs)) (E.beqs_eq _ _ h); rw [range_evs] at this; exact this
theorem clk_newF {f : FuncId} {K : Kind} {a : Nat -> Fam} {call : Caller} (hK : KindOk K) (hfam : ∀ {n}, 1 <= n -> n <= 8 -> K.fam n = some (a n)) (hcall : ∀ (cs : List Int) {w : World}, TabsIn tabs2 w -> CallOk Tryz.prog (envOf nm99 cs) w (fun _ => False) (tabGl tabs2 0) call)
  (hnil : (call f (varShs [confSh] 0) (tabHp tabs2) ((chk0.1, false) :: varFacts [confSh] 0)).all nilLeaf = true) (hnew : ∀ {n}, 1 <= n -> n <= 8 -> (call f (varShs [confSh] 0) (tabHp tabs2) (newFs n)).all (newLeafF a n) = true) : NewOk f K.q := fun cs w hns hlen hT => by
 obtain ⟨e1, e2, e3⟩ := conf_ev (β := tabB tabs2) hns nm99
 have chk : (eq0 (.app 99 0 ((List.range 11).map .var)) (.lit 0)).ev (envOf nm99 cs) ≠ 0 ↔ nm99 99 0 cs = 0 := by
  rw [eq0_ev]; show nm99 99 0 (E.evs _ _) = 0 ↔ _; rw [evs_vars, vars_self hlen]
 rw [<- e1]
 by_cases h : nm99 99 0 cs = 0
 ·have hcf := chkB_facts hns h
  obtain ⟨hc1, hc2⟩ := fsOk_apps.1 hcf
  have h7 : 1 <= cs.getD 7 0 /\ cs.getD 7 0 <= 8 := by
   have hc2 : SX.FsOk (envOf nm99 cs) [(lt0 (.var 7) (.lit 1), false), (lt0 (.lit 8) (.var 7), false)] := hc2; rw [fsOk_cons, fsOk_cons, lt0_ev, lt0_ev] at hc2; have a : ¬ cs.getD 7 0 < 1 := fun c => Bool.noConfusion (hc2.1.1 c)
   have b : ¬ 8 < cs.getD 7 0 := fun c => Bool.noConfusion (hc2.2.1.1 c)
   omega
  obtain ⟨n, hn⟩ : ∃ n : Nat, cs.getD 7 0 = (n : Int) := ⟨(cs.getD 7 0).toNat, by omega⟩
  have hn1 : 1 <= n := by omega
  have hn8 : n <= 8 := by omega
  have hf : SX.FsOk (envOf nm99 cs) (newFs n) := by
   unfold newFs; rw [fsOk_cons, fsOk_cons]; refine ⟨⟨fun _ => rfl, fun _ => chk.2 h⟩, ?_, fsOk_app hc1 e3⟩
   rw [eq0_ev]; exact ⟨fun _ => rfl, fun _ => hn⟩
  refine (call_tab tabs2_nd hT (hcall cs hT) hf e2 (K := fun v w' => ∃ b φ, v = ptrV b /\ Ob K.q [newN 0 cs] b φ w' /\ (∀ i, φ i -> w.heap.size <= i) /\ Below w.heap.size w w') (goes_all (hnew hn1 hn8) fun o ho β' w' _ _ _ hh hfo hv => ?_)).mono fun e w' ⟨v, he, b, φ, h1, h2⟩ => .inr ⟨h, b, φ, by rw [he, h1], h2⟩
  unfold newLeafF at ho; rw [bAnd] at ho; obtain ⟨b, φ, a1, a2, a3, a4⟩ := made_run hK (hfam hn1 hn8) top99.hi.mid.low hh hfo (newRus_ok cs n) hv ho.1; rw [newLeaf_ns ho.2, <- newN_at hn] at a2; exact ⟨b, φ, a1, a2, a3, a4⟩
 ·have hf : SX.FsOk (envOf nm99 cs) ((chk0.1, false) :: varFacts [confSh] 0) := by
   rw [fsOk_cons]; exact ⟨⟨fun e => absurd (chk.1 e) h, fun e => Bool.noConfusion e⟩, e3⟩
  exact (call_tab tabs2_nd hT (hcall cs hT) hf e2 (K := fun v w' => v = .pointer none /\ Below w.heap.size w w') (goes_all hnil fun o ho β' w' _ _ _ hh _ _ => ⟨nilLeaf_ev ho, hh.kept.to_below⟩)).mono fun e w' ⟨v, he, hv, hb⟩ => .inl ⟨h, by rw [he, hv], hb⟩
theorem fam_at {n : Nat} (hn1 : 1 <= n) (hn8 : n <= 8) : clK.fam n = some (clA n) := by
 show clFam n = _; unfold clFam; rw [if_pos ⟨hn1, hn8⟩]; rfl
theorem clk_new : NewOk 8 5 := clk_newF (a := clA) clK_ok fam_at callN_ok (by
 have := nil_tree; unfold nilT at this; exact this) fun h h' => by
 have := new_all h h'; unfold newT at this; exact this
end
def kBR : Sm := { kB with f := 7 }
theorem both99 : ((both2 Tryz.prog okF sumsN noKeep 80 30 6 7 kB.ps).all fun p => sameO kB.rs p.1 p.2) = true := by kernel_rfl
theorem sm99R (ρ : Env) (h : ρ.fn = nm99) (w : World) (M : Nat -> Prop) : SmOk Tryz.prog ρ w M kBR :=
 smAuto2 (s := kB) (okF := okF) (sums := sumsN) (keep := noKeep) (fuel := 80) (n := 30) (G := nm96) mixed okF_ok but99 (fun ns w' _ => sums_none _ _ _ _) h (fun ns j => congrFun (congrFun (if_pos rfl : nm99 99 = autoF nm96 kB.rs (smT kB)) j) ns) good99 both99
def sumsBR : Sums := sumsOf [kB, kBR]
def spNwR : SpcT := orT (ofSpc (orSpec spExNewR (sumSpec sumsBR))) spF2
def callNR : Caller := callH Tryz.prog (tabGl tabs2 0) okF spNwR noKeep 80 30
def newTR (n : Nat) : T Out := callNR 9 (varShs [confSh] 0) (tabHp tabs2) (newFs n)
def newLeafR : Nat -> Out -> Bool := newLeafF clAR
def nilTR : T Out := callNR 9 (varShs [confSh] 0) (tabHp tabs2) ((chk0.1, false) :: varFacts [confSh] 0)
theorem nil_treeR : nilTR.all nilLeaf = true := by kernel_rfl
theorem new1R : (newTR 1).all (newLeafR 1) = true := by kernel_rfl
theorem new2R : (newTR 2).all (newLeafR 2) = true := by kernel_rfl
theorem new3R : (newTR 3).all (newLeafR 3) = true := by kernel_rfl
theorem new4R : (newTR 4).all (newLeafR 4) = true := by kernel_rfl
theorem new5R : (newTR 5).all (newLeafR 5) = true := by kernel_rfl
theorem new6R : (newTR 6).all (newLeafR 6) = true := by kernel_rfl
theorem new7R : (newTR 7).all (newLeafR 7) = true := by kernel_rfl
theorem new8R : (newTR 8).all (newLeafR 8) = true := by kernel_rfl
theorem new_allR {n : Nat} (h : 1 <= n) (h' : n <= 8) : (newTR n).all (newLeafR n) = true := by8 (p := fun n => (newTR n).all (newLeafR n) = true) new1R new2R new3R new4R new5R new6R new7R new8R h h'
theorem fam_tR {t : Nat} (h1 : 1 <= t) (h8 : t <= 8) : clKR.fam t = some (clAR t) := by
 show clFamR t = _; unfold clFamR; rw [if_pos ⟨h1, h8⟩]; rfl
section
variable {cs : List Int} {w : World}
theorem callN_okR (cs : List Int) {w : World} (hT : TabsIn tabs2 w) : CallOk Tryz.prog (envOf nm99 cs) w (fun _ => False) (tabGl tabs2 0) callNR := by
 have h := top99.hi; have hk : ∀ w', Kept w (fun _ => False) w' -> TabsIn tabs2 w' := fun w' hk => TabsIn.kept hT hk
 exact callH_run mixed okF_ok (orT_ok (ofSpc_ok (orSpec_ok (spExNewR_ok h.en) (sumSpec_ok (sumsOf_ok fun s hs => by
  simp only [mCo, List.not_mem_nil, or_false] at hs; rcases hs with rfl | rfl
  ·exact sm99 (envOf nm99 cs) rfl w _
  ·exact sm99R (envOf nm99 cs) rfl w _)))) (spF2_ok h.mid.low)) 30
theorem clk_newR : NewOk 9 6 := clk_newF (a := clAR) clKR_ok fam_tR callN_okR (by
 have := nil_treeR; unfold nilTR at this; exact this) fun h h' => by
 have := new_allR h h'; unfold newTR at this; exact this
end
def actLk : List Lk := [.int .i64, .int .i64, .int .i64] ++ [.int .i64, .int .i64, .int .i64, .int .i64, .int .u64, .int .i64, .int .i64, .int .i64, .int .i64, .int .i64, .int .u64, .int .i64, .int .i64, .int .i64, .int .i64, .int .i64, .int .i64, .int .i64, .int .u64, .int .i64, .int .i64]
def shtSh : List Ph := [.sl actLk]
def boolEnd (P : Program) (fn : Func) (r : Rs) : Bool := match r.x with
 | .exit _ => false
 | _ => match resultsS P r.st fn.results.toList with
  | some [.bool (.lit _)] => true
  | _ => false
theorem boolEnd_spec {P : Program} {fn : Func} {r : Rs} (h : boolEnd P fn r = true) : (∀ id, r.x ≠ .exit id) /\ ∃ n, resultsS P r.st fn.results.toList = some [.bool (.lit n)] := by
 unfold boolEnd at h; split at h
 ·cases h
 ·rename_i hx
  refine ⟨fun id e => hx id e, ?_⟩
  split at h
  ·rename_i n hn; exact ⟨n, hn⟩
  ·cases h
def shtCode : Code := (Tryz.f4.body).getD .skip
def callSh : Caller := callG Tryz.prog (tabGl tabs2 0) okF noSpec noKeep 80 30
def shtI : E := .bin .zadd .i64 (.var 0) (.bin .zmul .i64 (.lit (-1)) (.var 2))
def actsL : SV := .inp 2 24 0 (.var 0) (.var 0) (.var 1)
def tabBx2 : List Box := [⟨false, .ro (cellsF.map ofLeaf)⟩, ⟨false, .ro (cellsP.map ofLeaf)⟩]
def shtT : TmR := ⟨⟨23, [(10, .int .i64 shtI), (8, actsL), (9, .int .i64 (.var 0))], tabBx2 ++ [⟨false, .arr 0 actLk (.var 0)⟩], lenU 0 ++ [(lt0 shtI (.lit 0), false), (lt0 (.var 2) (.lit 0), false)]⟩, .var 2, []⟩
def shtC : CutR := ⟨[1, 1, 0, 1, 0], 1, [shtT]⟩
theorem sht_enter : ((execP Tryz.prog (tabGl tabs2 0) callSh (noKeep 4) 80 shtCode (entrySt Tryz.f4 (phArgs tabs2.length (phSize shtSh) none shtSh 0) (arrHp tabs2 (phKs shtSh) (phSize shtSh)) ([] ++ (lenU (phSize shtSh) ++ phFacts shtSh 0)))).all (leafOkR (tabGl tabs2 0) [shtC] (boolEnd Tryz.prog Tryz.f4) (phSize shtSh + 2) [] 2)) = true := by kernel_rfl
theorem sht_round (g : Nat -> Value) : roundOkR Tryz.prog (tabGl tabs2 0) callSh (noKeep 4) 80 [shtC] (boolEnd Tryz.prog Tryz.f4) (phSize shtSh + 2) shtCode [] shtC shtT g = true := by kernel_rfl
theorem sht_body : Tryz.f4.body = some shtCode := by kernel_rfl
theorem sht_calls {b off len cap : Nat} {A : Nat -> Nat -> Int -> Int} {w : World} (ht : TabsIn tabs2 w) (h : ArrIn w actLk b off len cap A) : Calls Tryz.prog 4 #[.slice (some ⟨b, off, none⟩) len cap] w fun e w' => (e = .returned (.bool true) \/ e = .returned (.bool false)) /\ Below w.heap.size w w' :=
 fn_arr (R := fun e w' => (e = .returned (.bool true) \/ e = .returned (.bool false)) /\ Below w.heap.size w w') (hs := shtSh) (ns := []) (p := []) (rk := 2) (rs0 := []) (cuts := [shtC]) (endOk := boolEnd Tryz.prog Tryz.f4) (call := callSh) (keep := noKeep 4) (fuel := 80) tabs2 tabs2_nd ht mixed FN Tryz.func4 sht_body rfl h trivial rfl (fsOk_nil.2 trivial)
  (fun ρ' hρ => callG_run mixed okF_ok noSpec_ok 30)
  (fun ρ' hρ c hc t htm r hr => by
   obtain rfl : c = shtC := by simpa using hc
   obtain rfl : t = shtT := by simpa [shtC] using htm
   cases hr)
  (fun c hc t htm => by
   obtain rfl : c = shtC := by simpa using hc
   obtain rfl : t = shtT := by simpa [shtC] using htm
   exact ⟨.leaf, fun g => CT.mk0 (sht_round g)⟩)
  (fun _ h => by cases h) sht_enter
  (fun ρ' β' r a w' hρ hc he => by
   obtain ⟨h1, n, h2⟩ := boolEnd_spec he; refine ⟨h1, _, h2, ?_, hc.heap.kept.to_below⟩; show (Ending.returned (.bool (decide (n ≠ 0))) = _ \/ Ending.returned (.bool (decide (n ≠ 0))) = _)
   by_cases c : n = 0
   ·exact .inr (by rw [decide_eq_false (fun h => h c)])
   ·exact .inl (by rw [decide_eq_true c]))
def isT (o : Option Bool) : Bool := match o with
 | some true => true
 | _ => false
theorem isT_spec {o : Option Bool} (h : isT o = true) : o = some true := by
 unfold isT at h; split at h
 ·rfl
 ·cases h
def spShort : SpcT := fun f args hp fs => match args with
 | [.inp k z o l0 l c] => match hp.at k with
  | some ⟨_, .arr 0 ks l0'⟩ => if f = 4 /\ lksEq ks actLk = true /\ o = 0 /\ l0'.beq l = true /\ isT (decideE fs (lt0 (.lit 0) l)) = true
   then some (.both (.ok ⟨.bool (.lit 1), hp, fs⟩) (.ok ⟨.bool (.lit 0), hp, fs⟩)) else none
  | _ => none
 | _ => none
theorem spShort_ok {ρ : Env} {w0 : World} {gl : Gl} (hT : TabsIn tabs2 w0) : SpecOkT Tryz.prog ρ w0 (fun _ => False) gl spShort := fun f args hp fs t ht β w K hh hfs ha hg hK => by
 unfold spShort at ht; split at ht
 ·rename_i k z off l0 l c
  split at ht
  ·rename_i r ks l0' hk
   split at ht
   ·rename_i hc
    obtain ⟨c1, c2, rfl, c4, c5⟩ := hc; obtain rfl := sinj ht; obtain rfl := lksEq_spec c2; obtain rfl := E.beq_eq _ _ c4; have h1 := lt_of_decide hfs (isT_spec c5); obtain ⟨a1, _⟩ := ha; obtain ⟨a1, a2, a3, a4, a5⟩ := a1
    have h3 : l0'.ev ρ <= 9223372036854775807 := by
     have i2 : IntKind.i64.max = 9223372036854775807 := by decide
     have := ((wf_iff .i64 _).1 a2).2; rwa [i2] at this
    have hA := ArrIn.of_heap hh hk rfl (len := l0') (cap := c) h1 a4 h3; have e : SV.evs ρ β [SV.inp k z 0 l0 l0' c] = [.slice (some ⟨(β k).1, (β k).2, none⟩) (l0'.ev ρ).toNat (c.ev ρ).toNat] := by simp only [SV.evs, SV.ev, Nat.add_zero]
    rw [e]; subst c1; refine (sht_calls (TabsIn.kept hT hh.kept) hA).mono fun e w' ⟨he, hb⟩ => ?_
    rcases he with rfl | rfl
    ·exact ⟨_, rfl, hK.1 β w' (Ext.refl _ _) (Nat.le_refl _) (Stay.refl _) (hh.below hb) hfs trivial⟩
    ·exact ⟨_, rfl, hK.2 β w' (Ext.refl _ _) (Nat.le_refl _) (Stay.refl _) (hh.below hb) hfs trivial⟩
   ·cases ht
  ·cases ht
 ·cases ht
structure Law2 (F : Mng) : Prop where
 top : Top F
 chk : F 99 = nm99 99
 new : F 100 = newN
theorem law100 : Law2 nm100 :=
 have b : ∀ f, f < 100 -> nm100 f = nm99 f := fun f hf => if_neg (by omega)
 ⟨top99.congr fun f hf => b f (by omega), b 99 (by decide), if_pos rfl⟩
def newX (L : List E) : E := .app 100 0 L
def isNewB (q : Nat) (L : List E) (hp : Hp) (fs : Fs) : T Out := SX.split fs (eq0 (.app 99 0 L) (.lit 0))
 (fun fs' => .ok ⟨.ptr hp.n 0, hp.push ⟨true, .obj q [newX L]⟩, fs'⟩)
 (fun fs' => .ok ⟨.raw (.pointer none), hp, fs'⟩)
def spNewB (g q : Nat) : SpcT := fun f args hp fs => if f = g then (match shTakes [confSh] args with
 | some es => if Nat.beq es.length 11 then some (isNewB q (canons fs es) hp fs) else none
 | none => none) else none
theorem canons_len (fs : Fs) : ∀ es : List E, (canons fs es).length = es.length
 | [] => rfl
 | e :: es => by show (canons fs es).length + 1 = _; rw [canons_len fs es]; rfl
theorem spNewB_ok {g q : Nat} (hnew : NewOk g q) {ρ : Env} {w0 : World} {M : Nat -> Prop} {gl : Gl} (h : Law2 ρ.fn) (hT : ∀ w', Kept w0 M w' -> TabsIn tabs2 w') : SpecOkT Tryz.prog ρ w0 M gl (spNewB g q) := fun f args hp fs t ht β w K hh hfs ha hg hK => by
 unfold spNewB at ht; split at ht
 ·rename_i hfe
  subst hfe; split at ht
  ·rename_i es hes
   split at ht
   ·rename_i hl
    rw [beq_iff, dEq] at hl; obtain rfl := sinj ht; obtain ⟨a1, a2⟩ := shTakes_spec (β := β) ha hes; have hce : E.evs ρ (canons fs es) = E.evs ρ es := canons_ev hfs es; have hcl : (canons fs es).length = 11 := by rw [canons_len, hl]
    rw [<- hce] at a1 a2; generalize canons fs es = L at *; generalize hcs : E.evs ρ L = cs at *; have hlen : cs.length = 11 := by rw [<- hcs, evs_len, hcl]
    rw [a1]; obtain ⟨fs1, hf1, h1⟩ := split_holds hfs hK
    have hchk : (eq0 (.app 99 0 L) (.lit 0)).ev ρ ≠ 0 ↔ nm99 99 0 cs = 0 := by
     rw [eq0_ev]; show ρ.fn 99 0 (E.evs ρ L) = 0 ↔ _; rw [h.chk, hcs]
    have hrun := hnew cs w a2 hlen (hT w hh.kept); rcases h1 with ⟨c1, h1⟩ | ⟨c1, h1⟩
    ·refine hrun.mono fun e w' hx => ?_
     rcases hx with ⟨hx, _⟩ | ⟨_, b, φ, he, hob, hφ, hb⟩
     ·exact absurd (hchk.1 c1) hx
     ·refine ⟨_, he, ?_⟩
      have := h1 (upd β hp.n (b, 0)) w' (upd_ext _ _ _) (by simp) (Stay.push _ _) (Heap.newObj hh hb (es := [newX L]) (by
       show Ob q [ρ.fn 100 0 (E.evs ρ L)] b φ w'; rw [h.new, hcs]; exact hob) hφ) hf1 (by show hp.n < _; simp)
      have e2 : (SV.ptr hp.n 0).ev ρ (upd β hp.n (b, 0)) = ptrV b := by
       show Value.pointer (some ⟨(upd β hp.n (b, 0) hp.n).1, 0, none⟩) = _; rw [upd_same]; rfl
      rw [e2] at this; exact this
    ·refine hrun.mono fun e w' hx => ?_
     rcases hx with ⟨_, he, hb⟩ | ⟨hx, _⟩
     ·exact ⟨_, he, h1 β w' (Ext.refl _ _) (Nat.le_refl _) (Stay.refl _) (hh.below hb) hf1 trivial⟩
     ·exact absurd c1 (hchk.2 hx)
   ·cases ht
  ·cases ht
 ·cases ht
def spP : SpcT := orT spShort (orT (spNewB 8 5) (orT (spNewB 9 6) (orT (spMeth 5 clAnn) (orT (spMethS 5 clDec) (orT (spMeth 5 clSync) (orT (spMeth 5 clReq) (orT (spMeth 5 clResp) (orT (spMeth 5 clOff) (orT (spMethS 5 clSend) (orT (spGet 5 clState) (orT (spGet 5 clPar)
 (orT (spMeth 6 rcAnn) (orT (spMethS 6 rcDec) (orT (spMeth 6 rcSync) (orT (spMeth 6 rcReq) (orT (spMeth 6 rcResp) (orT (spMeth 6 rcOff) (orT (spMethS 6 rcSend) (orT (spGet 6 rcState) (orT (spGet 6 rcPar) (orT (ofSpc (sumSpec sumsBR)) spM)))))))))))))))))))))
def callP : Caller := callH Tryz.prog (tabGl tabs2 0) okF spP noKeep 80 30
theorem callP_ok {ρ : Env} {w : World} (h : Law2 ρ.fn) (hT : TabsIn tabs2 w) : CallOk Tryz.prog ρ w (fun _ => False) (tabGl tabs2 0) callP := by
 have hk : ∀ w', Kept w (fun _ => False) w' -> TabsIn tabs2 w' := fun w' hk => TabsIn.kept hT hk
 have t := h.top
 have hs : SumsOk Tryz.prog ρ w (fun _ => False) sumsBR := sumsOf_ok fun s hs => by
  simp only [mCo, List.not_mem_nil, or_false] at hs; rcases hs with rfl | rfl
  ·exact SmOk.congr (ρ := envOf nm99 []) (ρ' := ρ) (s := kB) h.chk (sm99 (envOf nm99 []) rfl w _)
  ·exact SmOk.congr (ρ := envOf nm99 []) (ρ' := ρ) (s := kBR) h.chk (sm99R (envOf nm99 []) rfl w _)
 exact callH_run mixed okF_ok (orT_ok (spShort_ok hT) (orT_ok (spNewB_ok clk_new h hk) (orT_ok (spNewB_ok clk_newR h hk) (orT_ok (spMeth_ok t.ann hk) (orT_ok (spMethS_ok t.dec hk) (orT_ok (spMeth_ok t.sync hk) (orT_ok (spMeth_ok t.req hk) (orT_ok (spMeth_ok t.resp hk) (orT_ok (spMeth_ok t.off hk) (orT_ok (spMethS_ok t.send hk) (orT_ok (spGet_ok t.stat hk) (orT_ok (spGet_ok t.par hk)
  (orT_ok (spMeth_ok t.annR hk) (orT_ok (spMethS_ok t.decR hk) (orT_ok (spMeth_ok t.syncR hk) (orT_ok (spMeth_ok t.reqR hk) (orT_ok (spMeth_ok t.respR hk) (orT_ok (spMeth_ok t.offR hk) (orT_ok (spMethS_ok t.sendR hk) (orT_ok (spGet_ok t.statR hk) (orT_ok (spGet_ok t.parR hk) (orT_ok (ofSpc_ok (sumSpec_ok hs)) (spM_ok t.hi.mid.low hk (sums41_all hk)))))))))))))))))))))))) 30
end
end Go.Proofs.YtfcpmapfhgibpaaGreatDoor
