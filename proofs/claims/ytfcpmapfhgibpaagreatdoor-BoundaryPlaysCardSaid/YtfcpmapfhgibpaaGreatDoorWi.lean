/- Hear, recent, Forget, Qualified; contracts that come to ways. -/
import Derived.Test.YtfcpmapfhgibpaaGreatDoorWg
import Derived.Test.YtfcpmapfhgibpaaGreatDoorWh
import Derived.Deep.Light
import Derived.Lib.Hide
import Derived.WalkLawsBesides
import Derived.Outline
import Derived.Deep.QuietTactic
set_option linter.unusedVariables false
set_option linter.unusedSimpArgs false
set_option maxRecDepth 1000000
namespace Go.Proofs.YtfcpmapfhgibpaaGreatDoor
noncomputable section
open Go Go.RowKit SX Frm Frn
theorem found_all {n i k : Nat} (h5 : n <= 5) (hi : i < n) (h1 : 1 <= k) (h8 : k <= 8) : foundB n i k = true := by
 have key : ∀ p : Nat -> Bool, upTo 7 (fun q => p (q + 1)) = true -> p k = true := fun p hp => by
  have := upTo_spec hp (i := k - 1) (by omega)
  simpa [show k - 1 + 1 = k by omega] using this
 match n, i, h5, hi with
 | 1, 0, _, _ => exact key _ found_1_0
 | 2, 0, _, _ => exact key _ found_2_0
 | 2, 1, _, _ => exact key _ found_2_1
 | 3, 0, _, _ => exact key _ found_3_0
 | 3, 1, _, _ => exact key _ found_3_1
 | 3, 2, _, _ => exact key _ found_3_2
 | 4, 0, _, _ => exact key _ found_4_0
 | 4, 1, _, _ => exact key _ found_4_1
 | 4, 2, _, _ => exact key _ found_4_2
 | 4, 3, _, _ => exact key _ found_4_3
 | 5, 0, _, _ => exact key _ found_5_0
 | 5, 1, _, _ => exact key _ found_5_1
 | 5, 2, _, _ => exact key _ found_5_2
 | 5, 3, _, _ => exact key _ found_5_3
 | 5, 4, _, _ => exact key _ found_5_4
theorem fresh_all {n : Nat} (hn : n < 5) : freshB n = true := by
 match n, hn with
 | 0, _ => exact fresh_0
 | 1, _ => exact fresh_1
 | 2, _ => exact fresh_2
 | 3, _ => exact fresh_3
 | 4, _ => exact fresh_4
theorem drop_all {j : Nat} (hj : j < 5) : dropB j = true := by
 match j, hj with
 | 0, _ => exact drop_0
 | 1, _ => exact drop_1
 | 2, _ => exact drop_2
 | 3, _ => exact drop_3
 | 4, _ => exact drop_4
section
variable {F : Mng} {d : List Int} {t win need now : Int} {l : List RV} {ts : List (Nat × Nat)} {tm : List Int} {b lb lc n : Nat} {ms : List Nat} {w w' : World} {f : Option (Nat × Nat)}
theorem v11_ev : (E.var 11).ev (envR F d t win need now l ts tm) = t := rfl
theorem v14_ev : (E.var 14).ev (envR F d t win need now l ts tm) = now := rfl
theorem lit_ev {ρ : Env} (k : Int) : (E.lit k).ev ρ = k := rfl
theorem hear_err {lv : Value} (hhead : w.heap[b]? = some (.cells #[.int .i64 win, .int .i64 need, .int .i64 now, lv] 112 (0, 0))) (hw : (Lit.int .i64 win).wf = true /\ (Lit.int .i64 need).wf = true /\ (Lit.int .i64 now).wf = true) (hd : fitsK ks11 d) (ht : (Lit.int .i64 t).wf = true)
  {j : Nat} {c : Int} (hF : SX.FsOk (envR F d t win need now [] [] []) (errF j)) (hB : errB j c lv = true) :
  Calls Tryz.prog 55 #[ptrV b, .agg (dsVals d).toArray, .int .i64 t] w fun e w' => e = .returned (.int .i64 c) /\ Below w.heap.size w w' := by
 have hh : Heap (envR F d t win need now [] [] []) w (fun i => ∃ k, k < 1 /\ (headB lv k).rw = true /\ ((fun _ => (b, 0) : Bm) k).1 = i) (fun _ => (b, 0)) ⟨1, headB lv⟩ w :=
  heap_of (fun k hk => by
   show w.heap[b]? = _; rw [hhead]; rfl) (fun j k hj hk _ => by omega) (fun k hk => ⟨hw.1, hw.2.1, hw.2.2, trivial, trivial⟩) (fun k hk ha => by cases ha) (fun k hk => rfl)
 have hr := ((callG_run (gl := []) (keep := noKeep) (fuel := 80) mixed okF_ok noSpec_ok 30 55 (argsH .var) ⟨1, headB lv⟩ (errF j) _ w (fun x w' => x = .int .i64 c /\ Below w.heap.size w w') hh hF ⟨(by decide : 0 < 1), dsS_ok (fun i hi => arg_ev i hi) hd, ht, trivial⟩ (fun _ h => by cases h)
  (T.holds_mono (fun o ho β' w' hx hl hs hh hf _ => ?_) (T.all_holds hB))).2).mono fun x w' ⟨y, he, h1, h2⟩ => (⟨by rw [he, h1], h2⟩ : x = Ending.returned (.int .i64 c) /\ Below w.heap.size w w')
 ·have e : SV.evs (envR F d t win need now [] [] []) (fun _ => (b, 0)) (argsH .var) = [ptrV b, .agg (dsVals d).toArray, .int .i64 t] := by
   show [ptrV b, Value.agg (SV.evs _ _ (dsS .var)).toArray, Value.int .i64 t] = _; rw [dsS_ev (fun i hi => arg_ev i hi)]
  rw [e] at hr; exact hr
 ·unfold isLitV at ho
  split at ho
  ·rename_i x hv
   obtain rfl : x = c := by simpa using ho
   refine ⟨by rw [hv]; rfl, ⟨hh.kept.os, hh.kept.tape, hh.kept.output, hh.kept.size, fun i hi => hh.kept.block i hi fun ⟨k, _, hr, _⟩ => by cases hr⟩⟩
  ·cases ho
theorem old_view (hP : PackOk l tm win need now n f) {j : Nat} (hj : j < n) : Wr.view (envR F d t win need now l ts tm) l (oldW j) = l.getD j rec0 := by
 have h5 : j < 5 := Nat.lt_of_lt_of_le hj hP.five; have hr := hP.recs (l.getD j rec0) (getD_mem (by rw [hP.len]; exact hj))
 have e : ((List.range 11).map fun q => (recVar j q).ev (envR F d t win need now l ts tm)) = (l.getD j rec0).1 := by
  rw [<- range11_self (fits_len hr.fits)]; exact List.map_congr_left fun q hq => rec_d j h5 q (mRa.1 hq)
 show ((List.range 11).map fun q => (recVar j q).ev _, (l.getD j rec0).2) = _
 rw [e]
theorem arg_view (hd : d.length = 11) : ((List.range 11).map fun q => (E.var q).ev (envR F d t win need now l ts tm)) = d := by
 have e : ((List.range 11).map fun q => (E.var q).ev (envR F d t win need now l ts tm)) = (List.range 11).map fun q => d.getD q 0 := List.map_congr_left fun q hq => arg_ev q (mRa.1 hq)
 rw [e, range11_self hd]
theorem eqOrg_ev {g : Nat -> E} {j : Nat} (hj : j < 5) (h7 : (g 7).ev (envR F d t win need now l ts tm) = d.getD 7 0) (h8 : (g 8).ev (envR F d t win need now l ts tm) = d.getD 8 0) :
  (eqOrg g j).ev (envR F d t win need now l ts tm) ≠ 0 ↔ org (l.getD j rec0).1 = org d := by
 have e1 := eqk_ev (ρ := envR F d t win need now l ts tm) .u64 (recVar j 7) (g 7); have e2 := eqk_ev (ρ := envR F d t win need now l ts tm) .i64 (recVar j 8) (g 8); rw [rec_d j hj 7 (by decide), h7] at e1
 rw [rec_d j hj 8 (by decide), h8] at e2
 have e0 : (eqOrg g j).ev (envR F d t win need now l ts tm) = if (E.bin .eq .u64 (recVar j 7) (g 7)).ev (envR F d t win need now l ts tm) ≠ 0 /\ (E.bin .eq .i64 (recVar j 8) (g 8)).ev (envR F d t win need now l ts tm) ≠ 0 then 1 else 0 := rfl
 rw [e0]; refine ⟨fun h => ?_, fun h => ?_⟩
 ·by_cases hc : (E.bin .eq .u64 (recVar j 7) (g 7)).ev (envR F d t win need now l ts tm) ≠ 0 /\ (E.bin .eq .i64 (recVar j 8) (g 8)).ev (envR F d t win need now l ts tm) ≠ 0
  ·exact Prod.ext (e1.1 hc.1) (e2.1 hc.2)
  ·rw [if_neg hc] at h; exact absurd rfl h
 ·rw [if_pos ⟨e1.2 (congrArg Prod.fst h), e2.2 (congrArg Prod.snd h)⟩]; decide
theorem notF_ok {g : Nat -> E} {m : Nat} (hm : m <= 5) (h7 : (g 7).ev (envR F d t win need now l ts tm) = d.getD 7 0) (h8 : (g 8).ev (envR F d t win need now l ts tm) = d.getD 8 0) (h : ∀ j, j < m -> org (l.getD j rec0).1 ≠ org d) : SX.FsOk (envR F d t win need now l ts tm) (notF g m) := fun p hp => by
 obtain ⟨j, hj, rfl⟩ := List.mem_map.1 hp; have hj' := mRa.1 hj; show (eqOrg g j).ev _ ≠ 0 ↔ false = true; rw [eqOrg_ev (by omega) h7 h8]
 exact ⟨fun e => absurd e (h j hj'), fun e => Bool.noConfusion e⟩
theorem goodF_ok {g : Nat -> E} (hg : ∀ j, j < 11 -> (g j).ev (envR F d t win need now l ts tm) = d.getD j 0) (h1 : 0 <= t /\ t <= maxSim) (h2 : now <= t) (h3 : d.getD 7 0 ≠ d.getD 9 0) (h4 : d.getD 6 0 < 32) : SX.FsOk (envR F d t win need now l ts tm) (goodF g) := by
 unfold maxSim at h1; rw [goodF, fsOk_cons, fsOk_cons, fsOk_cons, fsOk_cons, fsOk_cons, fsOk_nil, lt0_ev, lt0_ev, lt0_ev, lt0_ev, eqk_ev, hg 7 (by decide), hg 9 (by decide), hg 6 (by decide), v11_ev, v14_ev, lit_ev, lit_ev, lit_ev]
 exact ⟨⟨fun h => by omega, fun h => Bool.noConfusion h⟩, ⟨fun h => by omega, fun h => Bool.noConfusion h⟩, ⟨fun h => by omega, fun h => Bool.noConfusion h⟩, ⟨fun h => absurd h h3, fun h => Bool.noConfusion h⟩, ⟨fun _ => rfl, fun _ => h4⟩, trivial⟩
end
def Turns (s' : FS) (b : Nat) (φ : Nat -> Prop) (w w' : World) : Prop := ∃ φ', ObA s' b φ' w' /\ (∀ i, φ' i -> φ i \/ w.heap.size <= i) /\ Kept w φ w'
section
variable {s : FS} {b : Nat} {φ : Nat -> Prop} {w w' : World}
theorem view_get {l : List (List Msg)} {j : Nat} (hj : j < l.length) : (l.map viewA).getD j rec0 = viewA (l.getD j []) := by
 rw [gDe, lMp, gDe, lGe hj]; rfl
theorem msg_wf {now : Int} {m : Msg} (h : MsgOk now m) (hn : now <= maxSim) : (Lit.int .i64 m.t).wf = true := by
 have := h.lo; have := h.hi; unfold maxSim at hn; exact wfI (by omega)
theorem rv_ok (hs : RsOk s) {r : RV} (hr : r ∈ s.l.map viewA) : RvOk r := by
 obtain ⟨x, hx, rfl⟩ := List.mem_map.1 hr; obtain ⟨h1, h8⟩ := hs.some x hx; refine ⟨(hs.msgs x hx _ (lastM_mem h1)).fits, by simpa [viewA] using h1, by simpa [viewA] using h8, fun y hy => ?_⟩
 obtain ⟨m, hm, rfl⟩ := List.mem_map.1 hy; exact msg_wf (hs.msgs x hx m hm) hs.now.2
theorem st_wf (hs : RsOk s) : (Lit.int .i64 s.win).wf = true /\ (Lit.int .i64 s.need).wf = true /\ (Lit.int .i64 s.now).wf = true := by
 have := hs.win; have := hs.need; have := hs.now; unfold maxSim at *; exact ⟨wfI (by omega), wfI (by omega), wfI (by omega)⟩
theorem ObA.nilList {lb lc : Nat} {ms : List Nat} {ts : List (Nat × Nat)} (h : LayA s.win s.need s.now (s.l.map viewA) b lb lc ms ts w) (hφ : ∀ i, φ i ↔ i ∈ blksA (s.l.map viewA) b lb ms ts) :
  ∃ lb', LayA s.win s.need s.now (s.l.map viewA) b lb' lc ms ts w /\ (∀ i, φ i ↔ i ∈ blksA (s.l.map viewA) b lb' ms ts) /\ (s.l.map viewA = [] -> lb' = w.heap.size) := by
 by_cases hl : s.l.map viewA = []
 ·refine ⟨w.heap.size, ?_, fun i => ?_, fun _ => rfl⟩
  ·rw [hl] at h ⊢; exact lay_anyList h _ _
  ·rw [hφ i]; unfold blksA; rw [if_pos hl, if_pos hl]
 ·exact ⟨lb, h, hφ, fun e => absurd e hl⟩
theorem Turns.of {s' : FS} (hs' : RsOk s') {l' : List RV} {lb : Nat} {ms : List Nat} {ts : List (Nat × Nat)} (hl' : s'.l.map viewA = l')
  (hφ : ∀ i, φ i ↔ i ∈ blksA (s.l.map viewA) b lb ms ts) (h : ∃ lb' lc' ms' ts', LayA s'.win s'.need s'.now l' b lb' lc' ms' ts' w' /\ ∀ i ∈ blksA l' b lb' ms' ts', i ∈ blksA (s.l.map viewA) b lb ms ts \/ w.heap.size <= i) (hk : Kept w (fun i => i ∈ blksA (s.l.map viewA) b lb ms ts) w') : Turns s' b φ w w' := by
 subst hl'; obtain ⟨lb', lc', ms', ts', h1, h2⟩ := h; refine ⟨fun i => i ∈ blksA (s'.l.map viewA) b lb' ms' ts', ⟨hs', lb', lc', ms', ts', h1, fun i => Iff.rfl⟩, fun i hi => ?_, ⟨hk.os, hk.tape, hk.output, hk.size, fun i hi hn => hk.block i hi fun hm => hn ((hφ i).2 hm)⟩⟩
 rcases h2 i hi with h | h
 ·exact .inl ((hφ i).2 h)
 ·exact .inr h
theorem Turns.same (h : ObA s b φ w) (hb : Below w.heap.size w w') : Turns s b φ w w' := by
 have hlt : ∀ i, φ i -> i < w.heap.size := fun i hi => FrnOb_lt (q := 1) (vs := [code s]) ⟨s, rfl, h⟩ i hi
 obtain ⟨hs, lb, lc, ms, ts, h1, h2⟩ := h; exact ⟨φ, ⟨hs, lb, lc, ms, ts, h1.keep fun i hi => hb.block i (h1.lt_of hi), h2⟩, fun i hi => .inl hi, ⟨hb.os, hb.tape, hb.output, hb.size, fun i hi _ => hb.block i hi⟩⟩
theorem hear_ok {d : List Int} {t : Int} (hz : bad s d t = 0) : hear s d t = { s with now := t, l := put d t s.l } := by unfold hear; rw [if_pos hz]
set_option maxHeartbeats 2000000 in
theorem hear_found (hs : RsOk s) {lb lc : Nat} {ms : List Nat} {ts : List (Nat × Nat)} (hlay : LayA s.win s.need s.now (s.l.map viewA) b lb lc ms ts w) (hφ : ∀ i, φ i ↔ i ∈ blksA (s.l.map viewA) b lb ms ts) (h0 : s.l.map viewA = [] -> lb = w.heap.size) {d : List Int} {t : Int} (hd : fitsK ks11 d) (ht : (Lit.int .i64 t).wf = true) (hz : bad s d t = 0) {i : Nat} (hfi : Frm.find d s.l = some i) : Calls Tryz.prog 55 #[ptrV b, .agg (dsVals d).toArray, .int .i64 t] w fun e w' => e = .returned (.int .i64 0) /\ Turns (hear s d t) b φ w w' := by
 obtain ⟨b1, b2, b3, b4⟩ := bad_zero hz; have hw := st_wf hs; have hs' := rsOk_hear hs hd t; rw [hear_ok hz] at hs' ⊢; have hlen : (s.l.map viewA).length = s.l.length := by simp
 have h5 := hs.five; have mkP : ∀ (f : Option (Nat × Nat)) (tm : List Int), (∀ i k, f = some (i, k) -> i < s.l.length /\ tm = ((s.l.map viewA).getD i rec0).2 /\ k = tm.length) -> PackOk (s.l.map viewA) tm s.win s.need s.now s.l.length f := fun f tm hf => ⟨hlen, h5, fun r hr => rv_ok hs hr, hw, hf⟩
 have hd11 : d.length = 11 := fits_len hd; obtain ⟨f1, f2, f3⟩ := find_some hfi; have hr : s.l.getD i [] ∈ s.l := getD_mem f1; obtain ⟨k1, k8⟩ := hs.some _ hr; obtain ⟨tm, htm⟩ : ∃ tm, tm = (s.l.getD i []).map Msg.t := ⟨_, rfl⟩; have hvi : (s.l.map viewA).getD i rec0 = viewA (s.l.getD i []) := view_get f1; have hk : tm.length = (s.l.getD i []).length := by rw [htm]; simp
 have hP := mkP (some (i, (s.l.getD i []).length)) tm (fun i' k' he => by
  cases he; exact ⟨f1, by rw [hvi, htm]; rfl, hk.symm⟩)
 have hi5 : i < 5 := by omega
 obtain ⟨ρ, hρ⟩ : ∃ ρ, ρ = envR (fun _ _ _ => 0) d t s.win s.need s.now (s.l.map viewA) ts tm := ⟨_, rfl⟩
 have og : ∀ j, j < 11 -> (ofRec i j).ev ρ = d.getD j 0 := fun j hj => by
  have e7 : (recVar i 7).ev ρ = d.getD 7 0 /\ (recVar i 8).ev ρ = d.getD 8 0 := by
   have := f2; unfold org at this; simp only [Prod.mk.injEq] at this; rw [hρ, rec_d i hi5 7 (by decide), rec_d i hi5 8 (by decide), hvi]
   exact this
  unfold ofRec; rw [beq_iff, beq_iff]
  by_cases h7 : j = 7
  ·subst h7; exact e7.1
  ·rw [decide_eq_false h7]
   by_cases h8 : j = 8
   ·subst h8; exact e7.2
   ·rw [decide_eq_false h8, hρ]; exact arg_ev j hj
 have hrun := chg_A (F := fun _ _ _ => 0) (sp := noSpec) (g := 55) (args := argsH (ofRec i)) (p := goodF (ofRec i) ++ notF (ofRec i) i) (e := .var 11) (ws := fun _ => (List.range s.l.length).map (foundW i (s.l.getD i []).length)) (v := fun _ => .int .i64 (.lit 0)) hP hlay h0 hd ht noSpec_ok
  (by rw [<- hρ]; exact fsOk_app (by rw [hρ] at og ⊢; exact goodF_ok og b1 b2 b3 b4) (by rw [hρ] at og ⊢; exact notF_ok (by omega) (og 7 (by decide)) (og 8 (by decide)) fun j hj => by rw [view_get (by omega)]; exact f3 j hj))
  (by rw [<- hρ]; exact ⟨by show 0 < _; omega, dsS_ok og hd, by rw [hρ]; exact ht, trivial⟩) (found_all h5 f1 k1 k8)
 rw [<- hρ] at hrun
 have ea : SV.evs ρ (bmA s.l.length (some (i, (s.l.getD i []).length)) b lb lc ms ts) (argsH (ofRec i)) = [ptrV b, .agg (dsVals d).toArray, .int .i64 t] := by
  show [ptrV b, Value.agg (SV.evs _ _ (dsS (ofRec i))).toArray, Value.int .i64 ((E.var 11).ev ρ)] = _; rw [dsS_ev og, hρ, v11_ev]
 rw [ea] at hrun; refine hrun.mono fun x w' ⟨o, ho, hx, hl, hk'⟩ => ⟨hx, Turns.of hs' ?_ hφ (by rw [hρ, v11_ev] at hl; exact hl) hk'⟩
 show (put d t s.l).map viewA = ((List.range s.l.length).map (foundW i (s.l.getD i []).length)).map (Wr.view (envR (fun _ _ _ => 0) d t s.win s.need s.now (s.l.map viewA) ts tm) (s.l.map viewA))
 unfold put; rw [hfi]; apply List.ext_getElem?; intro j
 by_cases hj : j < s.l.length
 ·simp only [lMp, lRa hj, Option.map_some, List.getElem?_set]
  by_cases hji : i = j
  ·subst hji
   rw [if_pos rfl, if_pos hj, Option.map_some]; congr 1; unfold foundW; rw [beq_iff, decide_eq_true rfl, cond_true]
   have hd' : ((List.range 11).map fun q => (ofRec i q).ev (envR (fun _ _ _ => 0) d t s.win s.need s.now (s.l.map viewA) ts tm)) = d := by
    have : ((List.range 11).map fun q => (ofRec i q).ev (envR (fun _ _ _ => 0) d t s.win s.need s.now (s.l.map viewA) ts tm)) = (List.range 11).map fun q => d.getD q 0 := List.map_congr_left fun q hq => by rw [<- hρ]; exact og q (mRa.1 hq)
    rw [this, range11_self hd11]
   have hts : E.evs (envR (fun _ _ _ => 0) d t s.win s.need s.now (s.l.map viewA) ts tm) ((List.range (s.l.getD i []).length).map tmVar ++ [.var 11]) = tm ++ [t] := by
    rw [evs_app]; congr 1
    have : ∀ q : List Nat, E.evs (envR (fun _ _ _ => 0) d t s.win s.need s.now (s.l.map viewA) ts tm) (q.map tmVar) = q.map fun j => tm.getD j 0 := fun q => by
     induction q with
     | nil => rfl
     | cons x q ih => simp only [List.map_cons, E.evs, ih, tm_ev]
    rw [this, <- hk]; apply List.ext_getElem?; intro q
    by_cases hq : q < tm.length
    ·simp [hq]
    ·simp [hq]
   have hdrop : ∀ (k : Nat) (es : List E), E.evs (envR (fun _ _ _ => 0) d t s.win s.need s.now (s.l.map viewA) ts tm) (dropIf k es) = if 8 < k then (E.evs (envR (fun _ _ _ => 0) d t s.win s.need s.now (s.l.map viewA) ts tm) es).tail else E.evs (envR (fun _ _ _ => 0) d t s.win s.need s.now (s.l.map viewA) ts tm) es := fun k es => by
    unfold dropIf; rw [blt_iff]
    by_cases hk8 : 8 < k
    ·rw [decide_eq_true hk8, if_pos hk8]; cases es <;> rfl
    ·rw [decide_eq_false hk8, if_neg hk8]; rfl
   show viewA (keep8 (s.l.getD i [] ++ [⟨d, t⟩])) = ((List.range 11).map fun q => (ofRec i q).ev _, E.evs _ (dropIf ((s.l.getD i []).length + 1) _))
   rw [hd', hdrop, hts]; unfold viewA; rw [lastM_keep8]; congr 1; unfold keep8; simp only [List.length_append, List.length_singleton]; split
   ·rw [List.map_tail, List.map_append, htm]; rfl
   ·rw [List.map_append, htm]; rfl
  ·rw [if_neg hji]
   unfold foundW; rw [beq_iff, decide_eq_false (fun e => hji e.symm), cond_false, old_view hP hj, view_get hj]
   simp [lGe hj, gDe]
 ·rw [lNo (by simp; omega), lNo (by simp; omega)]
set_option maxHeartbeats 2000000 in
theorem hear_fresh (hs : RsOk s) {lb lc : Nat} {ms : List Nat} {ts : List (Nat × Nat)} (hlay : LayA s.win s.need s.now (s.l.map viewA) b lb lc ms ts w) (hφ : ∀ i, φ i ↔ i ∈ blksA (s.l.map viewA) b lb ms ts) (h0 : s.l.map viewA = [] -> lb = w.heap.size) {d : List Int} {t : Int} (hd : fitsK ks11 d) (ht : (Lit.int .i64 t).wf = true) (hz : bad s d t = 0) (hfi : Frm.find d s.l = none) (hn5 : s.l.length < 5) : Calls Tryz.prog 55 #[ptrV b, .agg (dsVals d).toArray, .int .i64 t] w fun e w' => e = .returned (.int .i64 0) /\ Turns (hear s d t) b φ w w' := by
 obtain ⟨b1, b2, b3, b4⟩ := bad_zero hz; have hw := st_wf hs; have hs' := rsOk_hear hs hd t; rw [hear_ok hz] at hs' ⊢; have hlen : (s.l.map viewA).length = s.l.length := by simp
 have h5 := hs.five; have mkP : ∀ (f : Option (Nat × Nat)) (tm : List Int), (∀ i k, f = some (i, k) -> i < s.l.length /\ tm = ((s.l.map viewA).getD i rec0).2 /\ k = tm.length) -> PackOk (s.l.map viewA) tm s.win s.need s.now s.l.length f := fun f tm hf => ⟨hlen, h5, fun r hr => rv_ok hs hr, hw, hf⟩
 have hd11 : d.length = 11 := fits_len hd; have hne := find_none hfi; have hP := mkP none [] (fun i k he => by cases he)
 have hnot : ∀ j, j < s.l.length -> org ((s.l.map viewA).getD j rec0).1 ≠ org d := fun j hj => by rw [view_get hj]; exact hne _ (getD_mem hj)
 have ea : SV.evs (envR (fun _ _ _ => 0) d t s.win s.need s.now (s.l.map viewA) ts []) (bmA s.l.length none b lb lc ms ts) (argsH .var) = [ptrV b, .agg (dsVals d).toArray, .int .i64 t] := by
  show [ptrV b, Value.agg (SV.evs _ _ (dsS .var)).toArray, Value.int .i64 t] = _; rw [dsS_ev fun j hj => arg_ev j hj]
 have hargs : ∀ m, 0 < m -> SV.oks (envR (fun _ _ _ => 0) d t s.win s.need s.now (s.l.map viewA) ts []) m (argsH .var) := fun m hm => ⟨hm, dsS_ok (fun j hj => arg_ev j hj) hd, ht, trivial⟩
 have hnew : Wr.view (envR (fun _ _ _ => 0) d t s.win s.need s.now (s.l.map viewA) ts []) (s.l.map viewA) newW = viewA [⟨d, t⟩] := by
  show ((List.range 11).map fun q => (E.var q).ev _, [t]) = (d, [t])
  rw [arg_view hd11]
 have holds : ∀ q : List Nat, (∀ j ∈ q, j < s.l.length) -> (q.map oldW).map (Wr.view (envR (fun _ _ _ => 0) d t s.win s.need s.now (s.l.map viewA) ts []) (s.l.map viewA)) = q.map fun j => viewA (s.l.getD j []) := fun q hq => by
  rw [List.map_map]; exact List.map_congr_left fun j hj => by rw [Function.comp, old_view hP (hq j hj), view_get (hq j hj)]
 have hrange : (List.range s.l.length).map (fun j => viewA (s.l.getD j [])) = s.l.map viewA := by
  apply List.ext_getElem?; intro j
  by_cases hj : j < s.l.length
  ·simp [hj, lRa hj]
  ·simp [hj]
 have hrun := chg_A (F := fun _ _ _ => 0) (sp := noSpec) (g := 55) (args := argsH .var) (p := goodF .var ++ notF .var s.l.length) (e := .var 11) (ws := fun _ => (List.range s.l.length).map oldW ++ [newW]) (v := fun _ => .int .i64 (.lit 0)) hP hlay h0 hd ht noSpec_ok
  (fsOk_app (goodF_ok (fun j hj => arg_ev j hj) b1 b2 b3 b4) (notF_ok h5 (arg_ev 7 (by decide)) (arg_ev 8 (by decide)) hnot)) (hargs _ (by omega)) (fresh_all hn5)
 rw [ea] at hrun; refine hrun.mono fun x w' ⟨o, ho, hx, hl, hk'⟩ => ⟨hx, Turns.of hs' ?_ hφ hl hk'⟩
 show (put d t s.l).map viewA = _; unfold put; rw [hfi]; simp only [if_neg (show ¬ s.l.length = 5 by omega), List.map_append]
 rw [holds _ (fun j hj => mRa.1 hj), hrange]
 show _ = _ ++ [Wr.view _ _ newW]; rw [hnew]; rfl
end
section
variable {s : FS} {b : Nat} {φ : Nat -> Prop} {w w' : World}
set_option maxHeartbeats 2000000 in
theorem hear_drop (hs : RsOk s) {lb lc : Nat} {ms : List Nat} {ts : List (Nat × Nat)} (hlay : LayA s.win s.need s.now (s.l.map viewA) b lb lc ms ts w) (hφ : ∀ i, φ i ↔ i ∈ blksA (s.l.map viewA) b lb ms ts) (h0 : s.l.map viewA = [] -> lb = w.heap.size) {d : List Int} {t : Int} (hd : fitsK ks11 d) (ht : (Lit.int .i64 t).wf = true) (hz : bad s d t = 0) (hfi : Frm.find d s.l = none) (hn5 : ¬ s.l.length < 5) : Calls Tryz.prog 55 #[ptrV b, .agg (dsVals d).toArray, .int .i64 t] w fun e w' => e = .returned (.int .i64 0) /\ Turns (hear s d t) b φ w w' := by
 obtain ⟨b1, b2, b3, b4⟩ := bad_zero hz; have hw := st_wf hs; have hs' := rsOk_hear hs hd t; rw [hear_ok hz] at hs' ⊢; have hlen : (s.l.map viewA).length = s.l.length := by simp
 have h5 := hs.five; have mkP : ∀ (f : Option (Nat × Nat)) (tm : List Int), (∀ i k, f = some (i, k) -> i < s.l.length /\ tm = ((s.l.map viewA).getD i rec0).2 /\ k = tm.length) -> PackOk (s.l.map viewA) tm s.win s.need s.now s.l.length f := fun f tm hf => ⟨hlen, h5, fun r hr => rv_ok hs hr, hw, hf⟩
 have hd11 : d.length = 11 := fits_len hd; have hne := find_none hfi; have hP := mkP none [] (fun i k he => by cases he)
 have hnot : ∀ j, j < s.l.length -> org ((s.l.map viewA).getD j rec0).1 ≠ org d := fun j hj => by rw [view_get hj]; exact hne _ (getD_mem hj)
 have ea : SV.evs (envR (fun _ _ _ => 0) d t s.win s.need s.now (s.l.map viewA) ts []) (bmA s.l.length none b lb lc ms ts) (argsH .var) = [ptrV b, .agg (dsVals d).toArray, .int .i64 t] := by
  show [ptrV b, Value.agg (SV.evs _ _ (dsS .var)).toArray, Value.int .i64 t] = _; rw [dsS_ev fun j hj => arg_ev j hj]
 have hargs : ∀ m, 0 < m -> SV.oks (envR (fun _ _ _ => 0) d t s.win s.need s.now (s.l.map viewA) ts []) m (argsH .var) := fun m hm => ⟨hm, dsS_ok (fun j hj => arg_ev j hj) hd, ht, trivial⟩
 have hnew : Wr.view (envR (fun _ _ _ => 0) d t s.win s.need s.now (s.l.map viewA) ts []) (s.l.map viewA) newW = viewA [⟨d, t⟩] := by
  show ((List.range 11).map fun q => (E.var q).ev _, [t]) = (d, [t])
  rw [arg_view hd11]
 have holds : ∀ q : List Nat, (∀ j ∈ q, j < s.l.length) -> (q.map oldW).map (Wr.view (envR (fun _ _ _ => 0) d t s.win s.need s.now (s.l.map viewA) ts []) (s.l.map viewA)) = q.map fun j => viewA (s.l.getD j []) := fun q hq => by
  rw [List.map_map]; exact List.map_congr_left fun j hj => by rw [Function.comp, old_view hP (hq j hj), view_get (hq j hj)]
 have hrange : (List.range s.l.length).map (fun j => viewA (s.l.getD j [])) = s.l.map viewA := by
  apply List.ext_getElem?; intro j
  by_cases hj : j < s.l.length
  ·simp [hj, lRa hj]
  ·simp [hj]
 have hn : s.l.length = 5 := by omega
 have hne' : s.l ≠ [] := fun e => by rw [e] at hn; cases hn
 obtain ⟨o1, o2, o3⟩ := old_spec hne'; obtain ⟨j0, hj0⟩ : ∃ j0, j0 = old s.l := ⟨_, rfl⟩; rw [<- hj0] at o1 o2 o3
 have hlate : ∀ j, j < 5 -> (lateE j).ev (envR (fun _ _ _ => 0) d t s.win s.need s.now (s.l.map viewA) ts []) = (lastM (s.l.getD j [])).t := fun j hj => by
  have hjl : j < s.l.length := by omega
  obtain ⟨r1, r8⟩ := hs.some _ (getD_mem (d := []) hjl); have hlast := msg_wf (hs.msgs _ (getD_mem (d := []) hjl) _ (lastM_mem r1)) hs.now.2
  have e2 : (E.bin .sub .i64 (recVar j 11) (.lit 1)).ev (envR (fun _ _ _ => 0) d t s.win s.need s.now (s.l.map viewA) ts []) = (((s.l.getD j []).length - 1 : Nat) : Int) := by
   show IntKind.i64.wrap ((recVar j 11).ev _ - 1) = _; rw [rec_len j hj, view_get hjl]; have : (viewA (s.l.getD j [])).2.length = (s.l.getD j []).length := by simp [viewA]
   rw [this, wrap_fit ((wf_iff .i64 _).1 (wfI (by omega)))]
   omega
  show IntKind.i64.wrap (arrA (s.l.map viewA) j 3 _) = _; rw [e2]; unfold arrA; rw [view_get hjl, Int.toNat_natCast]
  have e3 : (viewA (s.l.getD j [])).2.getD ((s.l.getD j []).length - 1) 0 = (lastM (s.l.getD j [])).t := by
   generalize s.l.getD j [] = r at r1 ⊢; have hi : r.length - 1 < r.length := by omega
   show (r.map Msg.t).getD (r.length - 1) 0 = _; rw [gDe, lMp, lGe hi]; show (r[r.length - 1]).t = _; unfold lastM; cases r with
   | nil => simp at r1
   | cons x r => simp [List.getLastD, List.getLast_eq_getElem]
  rw [e3]; exact wrap_fit ((wf_iff .i64 _).1 hlast)
 have hF : SX.FsOk (envR (fun _ _ _ => 0) d t s.win s.need s.now (s.l.map viewA) ts []) (oldF j0) := fun p hp => by
  obtain ⟨i, hi, hp⟩ := List.mem_flatMap.1 hp; have hi5 : i < 5 := mRa.1 hi; rw [beq_iff, blt_iff] at hp
  by_cases hij : i = j0
  ·rw [decide_eq_true hij] at hp; cases hp
  ·rw [decide_eq_false hij, cond_false] at hp
   by_cases hlt : i < j0
   ·rw [decide_eq_true hlt, cond_true] at hp
    obtain rfl := List.mem_singleton.1 hp; show (lt0 (lateE j0) (lateE i)).ev _ ≠ 0 ↔ _; rw [lt0_ev, hlate j0 (by omega), hlate i hi5]
    exact ⟨fun _ => rfl, fun _ => o2 i hlt⟩
   ·rw [decide_eq_false hlt, cond_false] at hp
    obtain rfl := List.mem_singleton.1 hp; show (lt0 (lateE i) (lateE j0)).ev _ ≠ 0 ↔ _; rw [lt0_ev, hlate j0 (by omega), hlate i hi5]
    exact ⟨fun e => absurd e (o3 i (by omega) (by omega)), fun e => Bool.noConfusion e⟩
 have hP5 : PackOk (s.l.map viewA) [] s.win s.need s.now 5 none := by rw [<- hn]; exact hP
 have hB : (runG noSpec 55 (argsH .var) 5 none (goodF .var ++ (notF .var 5 ++ oldF j0))).all (endA 5 none (.var 11) (fun _ => ((List.range 5).eraseIdx j0).map oldW ++ [newW]) (fun _ => .int .i64 (.lit 0))) = true := by
  have := drop_all (j := j0) (by omega)
  unfold dropB at this; exact this
 have hrun := chg_A (F := fun _ _ _ => 0) (sp := noSpec) (g := 55) (args := argsH .var) (p := goodF .var ++ (notF .var 5 ++ oldF j0)) (e := .var 11) (ws := fun _ => ((List.range 5).eraseIdx j0).map oldW ++ [newW]) (v := fun _ => .int .i64 (.lit 0)) hP5 hlay h0 hd ht noSpec_ok
  (fsOk_app (goodF_ok (fun j hj => arg_ev j hj) b1 b2 b3 b4) (fsOk_app (notF_ok (by decide) (arg_ev 7 (by decide)) (arg_ev 8 (by decide)) (fun j hj => hnot j (by omega))) hF)) (hargs _ (by omega)) hB
 rw [hn] at ea; rw [ea] at hrun; refine hrun.mono fun x w' ⟨o, ho, hx, hl, hk'⟩ => ⟨hx, Turns.of hs' ?_ hφ hl hk'⟩
 show (put d t s.l).map viewA = _; unfold put; rw [hfi]; simp only [if_pos hn, List.map_append]; rw [holds _ (fun j hj => by have := mRa.1 (List.mem_of_mem_eraseIdx hj); omega)]
 have he : ((List.range 5).eraseIdx j0).map (fun j => viewA (s.l.getD j [])) = (s.l.eraseIdx (old s.l)).map viewA := by
  have hmap : ∀ {α γ : Type} (g : α -> γ) (q : List α) (k : Nat), (q.eraseIdx k).map g = (q.map g).eraseIdx k := fun g q => by
   induction q with
   | nil => intro k; rfl
   | cons x q ih => intro k; cases k with
    | zero => rfl
    | succ k => simp [ih]
  rw [hmap, hmap, <- hj0, <- hn, hrange]
 rw [he]; show _ = _ ++ [Wr.view _ _ newW]; rw [hnew]; rfl
theorem hear_any (h : ObA s b φ w) {d : List Int} {t : Int} (hd : fitsK ks11 d) (ht : (Lit.int .i64 t).wf = true) :
  Calls Tryz.prog 55 #[ptrV b, .agg (dsVals d).toArray, .int .i64 t] w fun e w' => e = .returned (.int .i64 (bad s d t)) /\ Turns (hear s d t) b φ w w' := by
 have hob := h; obtain ⟨hs, lb0, lc, ms, ts, hlay0, hφ0⟩ := h; obtain ⟨lb, hlay, hφ, h0⟩ := ObA.nilList hlay0 hφ0; have hw := st_wf hs
 by_cases hz : bad s d t = 0
 ·rw [hz]
  cases hfi : Frm.find d s.l with
  | some i => exact hear_found hs hlay hφ h0 hd ht hz hfi
  | none =>
   by_cases hn5 : s.l.length < 5
   ·exact hear_fresh hs hlay hφ h0 hd ht hz hfi hn5
   ·exact hear_drop hs hlay hφ h0 hd ht hz hfi hn5
 ·have e1 : hear s d t = s := by unfold hear; rw [if_neg hz]
  rw [e1]; have hh := hlay.head
  have fin : ∀ j, SX.FsOk (envR (fun _ _ _ => 0) d t s.win s.need s.now [] [] []) (errF j) -> (∀ lv, errB j (bad s d t) lv = true) -> Calls Tryz.prog 55 #[ptrV b, .agg (dsVals d).toArray, .int .i64 t] w fun e w' => e = .returned (.int .i64 (bad s d t)) /\ Turns s b φ w w' := fun j hF hB =>
   (hear_err hh hw hd ht hF (hB _)).mono fun x w' ⟨h1, h2⟩ => ⟨h1, Turns.same hob h2⟩
  have a : ∀ j, j < 11 -> (E.var j).ev (envR (fun _ _ _ => 0) d t s.win s.need s.now [] [] []) = d.getD j 0 := fun j hj => arg_ev j hj
  have e11 : (E.var 11).ev (envR (fun _ _ _ => 0) d t s.win s.need s.now [] [] []) = t := rfl
  have e14 : (E.var 14).ev (envR (fun _ _ _ => 0) d t s.win s.need s.now [] [] []) = s.now := rfl
  have no : ∀ {p : Prop}, ¬ p -> (p ↔ false = true) := fun hp => ⟨fun h => absurd h hp, fun h => Bool.noConfusion h⟩
  have yes : ∀ {p : Prop}, p -> (p ↔ true = true) := fun hp => ⟨fun _ => rfl, fun _ => hp⟩
  by_cases c0 : t < 0
  ·have hb : bad s d t = 3 := by unfold bad; rw [if_pos (.inl c0)]
   refine fin 0 ?_ (by rw [hb]; exact err_0)
   rw [errF, fsOk_cons, fsOk_nil, lt0_ev, e11, lit_ev]; exact ⟨yes c0, trivial⟩
  ·by_cases c1 : maxSim < t
   ·have hb : bad s d t = 3 := by unfold bad; rw [if_pos (.inr c1)]
    refine fin 1 ?_ (by rw [hb]; exact err_1)
    unfold maxSim at c1; rw [errF, fsOk_cons, fsOk_cons, fsOk_nil, lt0_ev, lt0_ev, e11, lit_ev, lit_ev]; exact ⟨no c0, yes c1, trivial⟩
   ·by_cases c2 : t < s.now
    ·have hb : bad s d t = 12 := by unfold bad; rw [if_neg (by omega), if_pos c2]
     refine fin 2 ?_ (by rw [hb]; exact err_2)
     unfold maxSim at c1; rw [errF, fsOk_cons, fsOk_cons, fsOk_cons, fsOk_nil, lt0_ev, lt0_ev, lt0_ev, e11, e14, lit_ev, lit_ev]; exact ⟨no c0, no c1, yes c2, trivial⟩
    ·by_cases c3 : d.getD 7 0 = d.getD 9 0
     ·have hb : bad s d t = 18 := by unfold bad; rw [if_neg (by omega), if_neg c2, if_pos c3]
      refine fin 3 ?_ (by rw [hb]; exact err_3)
      unfold maxSim at c1; rw [errF, fsOk_cons, fsOk_cons, fsOk_cons, fsOk_cons, fsOk_nil, lt0_ev, lt0_ev, lt0_ev, eqk_ev, a 7 (by decide), a 9 (by decide), e11, e14, lit_ev, lit_ev]
      exact ⟨no c0, no c1, no c2, yes c3, trivial⟩
     ·by_cases c4 : d.getD 6 0 < 32
      ·exact absurd (by unfold bad; rw [if_neg (by omega), if_neg c2, if_neg c3, if_neg (by omega)]) hz
      ·have hb : bad s d t = 3 := by unfold bad; rw [if_neg (by omega), if_neg c2, if_neg c3, if_pos (by omega)]
       refine fin 4 ?_ (by rw [hb]; exact err_4)
       unfold maxSim at c1; show SX.FsOk _ errF4; rw [errF4, fsOk_cons, fsOk_cons, fsOk_cons, fsOk_cons, fsOk_cons, fsOk_nil, lt0_ev, lt0_ev, lt0_ev, lt0_ev, eqk_ev, a 7 (by decide), a 9 (by decide), a 6 (by decide), e11, e14, lit_ev, lit_ev, lit_ev]
       exact ⟨no c0, no c1, no c2, no c3, no c4, trivial⟩
end
theorem below_drawn {B : Nat} {a w : World} (h : Below B a w) (n : Nat) : Below B a (w.drewN n) := h.trans ⟨rfl, rfl, rfl, Nat.le_refl _, fun _ _ => rfl⟩
theorem recent_any {b m tb cap o : Nat} {win now a : Int} {ts : List Int} {w : World} (h0 : w.cell? ⟨b, 0, none⟩ = some (.int .i64 win)) (h2 : w.cell? ⟨b, 2, none⟩ = some (.int .i64 now)) (hm : w.cell? ⟨m, 13, none⟩ = some (.slice (some ⟨tb, o, none⟩) ts.length cap)) (ht : ∀ i : Nat, i < ts.length -> w.cell? ⟨tb, o + i, none⟩ = some (.int .i64 (ts.getD i 0)))
  (hlen : ts.length <= 8) (hw : 1 <= win /\ win <= maxSim) (hn : 0 <= now /\ now <= maxSim) (ha : (Lit.int .i64 a).wf = true) :
  Calls Tryz.prog 84 #[.pointer (some ⟨b, 0, none⟩), .pointer (some ⟨m, 0, none⟩), .int .i64 a] w fun e w' => e = .returned (.int .i64 ((ts.filter fun x => decide (max a now - win < x)).length : Int)) /\ Below w.heap.size w w' := by
 go_enter Tryz.func84, Tryz.ntmps84
 go_wp2_with fail
 go_loopw [7, 15] (fun v i wr => ∃ k : Nat, k <= ts.length /\ i = .int .i64 k /\ v = .int .i64 (((ts.take k).filter fun x => decide (max a now - win < x)).length : Int) /\ Below w.heap.size w wr) (fun _ i _ => ts.length - (intOf i).toNat)
 case atStart => exact ⟨0, Nat.zero_le _, rfl, by simp, Below.refl _ _⟩
 case round =>
  obtain ⟨k, hk, rfl, rfl, hb⟩ := hrel
  have hmx : IntKind.i64.wrap ((if a < now then now else a) - win) = max a now - win := by
   have ha' := (wf_iff .i64 a).1 ha; have i1 : IntKind.i64.min = -9223372036854775808 := by decide
   have i2 : IntKind.i64.max = 9223372036854775807 := by decide
   rw [i1, i2] at ha'; unfold maxSim at *; have e : (if a < now then now else a) = max a now := by rw [Int.max_def]; split <;> split <;> omega
   rw [e]; exact wrap_fit ⟨by rw [i1]; omega, by rw [i2]; omega⟩
  by_cases hlt : k < ts.length
  ·have hbl : ∀ p : Addr, (hp : p.block < w.heap.size) -> wr.cell? p = w.cell? p := fun p hp => hb.cell hp
   have c0 : wr.cell? ⟨b, 0, none⟩ = some (.int .i64 win) := (hbl ⟨b, 0, none⟩ (block_lt_of_cell h0)).trans h0; have c2 : wr.cell? ⟨b, 2, none⟩ = some (.int .i64 now) := (hbl ⟨b, 2, none⟩ (block_lt_of_cell h2)).trans h2; have hg : ts.getD k 0 = ts[k] := by simp [hlt]
   have ct : wr.cell? ⟨tb, o + k, none⟩ = some (.int .i64 ts[k]) := by rw [<- hg]; exact (hbl ⟨tb, o + k, none⟩ (block_lt_of_cell (ht k hlt))).trans (ht k hlt)
   have hstep : ((ts.take (k + 1)).filter fun x => decide (max a now - win < x)).length = ((ts.take k).filter fun x => decide (max a now - win < x)).length + if max a now - win < ts[k] then 1 else 0 := by
    rw [List.take_succ_eq_append_getElem hlt, List.filter_append, List.length_append]; congr 1
    by_cases hc : max a now - win < ts[k] <;> simp [hc]
   have hle : ((ts.take k).filter fun x => decide (max a now - win < x)).length <= 8 := Nat.le_trans (List.length_filter_le _ _) (by rw [List.length_take]; omega)
   obtain ⟨q, hq⟩ : ∃ q, q = ((ts.take k).filter fun x => decide (max a now - win < x)).length := ⟨_, rfl⟩
   rw [<- hq] at hle hstep ⊢; have HB := Lib.hid hb; have HS := Lib.hid hstep; clear h0 h2 hm ht hstep hq hb hbl hg
   by_cases hc : max a now - win < ts[k]
   ·go_wp2_with fail
    go_quiet (fail)
    go_wp2
    go_roundw
    case rel => exact ⟨k + 1, by omega, by go_num, by rw [HS.out, if_pos hc]; go_num, below_drawn HB.out _⟩
    case measure => simp [intOf]; omega
   ·go_wp2_with fail
    go_quiet (fail)
    go_wp2
    go_roundw
    case rel => exact ⟨k + 1, by omega, by go_num, by rw [HS.out, if_neg (by omega), Nat.add_zero], below_drawn HB.out _⟩
    case measure => simp [intOf]; omega
  ·have hk' : k = ts.length := by omega
   subst hk'; rw [List.take_length]
   go_wp2
   go_ret
   exact ⟨rfl, hb⟩
def recE (i : Nat) (a : E) : E := .app 30 0 [litN i, a]
def newer (a now win : Int) (ts : List Int) : Nat := (ts.filter fun x => decide (max a now - win < x)).length
def FR (l : List RV) (now win : Int) : Mng := fun f _ ns => if f = 30 then (newer (ns.tail.headD 0) now win (l.getD (ns.headD 0).toNat rec0).2 : Int) else 0
def cellFit (hp : Hp) (fs : Fs) (k j : Nat) (want : SV) : Bool :=
 match cellsAt hp k with
 | some c => match c[j]? with
  | some s => SV.fit fs (fun i => .var i) id hp.n want s
  | none => false
 | none => false
def isArrB (hp : Hp) (k i : Nat) : Bool :=
 match hp.at k with
 | some ⟨_, .arr a [.int .i64] (.var v)⟩ => Nat.beq a i && Nat.beq v (15 + 13 * i + 11)
 | _ => false
def spRecent (n : Nat) : Spc := fun f args hp fs =>
 match args with
 | [.ptr 0 0, .ptr k 0, .int .i64 a] => if f = 84 /\ 2 <= k /\ k < 2 + n /\ cellFit hp fs 0 0 (.int .i64 (.var 12)) = true /\ cellFit hp fs 0 2 (.int .i64 (.var 14)) = true /\ cellFit hp fs k 13 (timesS n (k - 2) none) = true /\ isArrB hp (2 + n + (k - 2)) (k - 2) = true then
   some ⟨.int .i64 (recE (k - 2) (canon fs a)), hp, fs⟩ else none
 | _ => none
section
variable {ρ : Env} {w0 w : World} {M : Nat -> Prop} {β : Bm} {hp : Hp} {fs : Fs}
theorem cellFit_spec (hh : Heap ρ w0 M β hp w) (hf : SX.FsOk ρ fs) {k j : Nat} {want : SV} (h : cellFit hp fs k j want = true) : w.cell? ⟨(β k).1, j, none⟩ = some (want.ev ρ β) := by
 unfold cellFit at h; split at h
 ·rename_i c hc
  split at h
  ·rename_i s hs
   obtain ⟨e, _⟩ := SV.fit_spec (β := β) (m := hp.n) hf _ _ h; have := (cellsAt_spec hh.sees hc).1 j (s.ev ρ β) (by rw [SV.evs_map, lMp, hs]; rfl)
   rw [this, e, envSub_var]; rfl
  ·cases h
 ·cases h
end
section
variable {F : Mng} {d : List Int} {t win need now : Int} {l : List RV} {ts : List (Nat × Nat)} {tm : List Int} {b lb lc n : Nat} {ms : List Nat} {w0 w : World} {M : Nat -> Prop} {gl : Gl}
theorem spRecent_ok (hl : l.length = n) (h5 : n <= 5) (hr : ∀ r ∈ l, RvOk r) (hw : 1 <= win /\ win <= maxSim) (hn : 0 <= now /\ now <= maxSim) : SpecOk Tryz.prog (envR (FR l now win) d t win need now l ts tm) w0 M gl (spRecent n) := fun f args hp fs o h β w hh hfs ha hg => by
 unfold spRecent at h; split at h
 ·rename_i k a
  split at h
  ·rename_i hc
   obtain ⟨rfl, c1, c2, c3, c4, c5, c6⟩ := hc; obtain rfl := sinj h; obtain ⟨i, rfl⟩ : ∃ i, k = 2 + i := ⟨k - 2, by omega⟩
   rw [show 2 + i - 2 = i by omega] at c5 c6 ⊢
   have hi5 : i < 5 := by omega
   have hil : i < l.length := by omega
   have hR := hr _ (getD_mem (d := rec0) hil); have e0 := cellFit_spec hh hfs c3; have e2 := cellFit_spec hh hfs c4; have e13 := cellFit_spec hh hfs c5
   have et : (timesS n i none).ev (envR (FR l now win) d t win need now l ts tm) β = .slice (some ⟨(β (2 + n + i)).1, (β (2 + n + i)).2 + 0, none⟩) (l.getD i rec0).2.length (ts.getD i (0, 0)).2 := by
    show Value.slice (some ⟨(β (2 + n + i)).1, (β (2 + n + i)).2 + 0, none⟩) ((recVar i 11).ev _).toNat ((recVar i 12).ev _).toNat = _; rw [rec_len i hi5, rec_cap i hi5]; rfl
   rw [et] at e13
   have hv : (recE i (canon fs a)).ev (envR (FR l now win) d t win need now l ts tm) = (newer (a.ev (envR (FR l now win) d t win need now l ts tm)) now win (l.getD i rec0).2 : Int) := by
    show FR l now win 30 0 [Int.ofNat i, (canon fs a).ev _] = _; rw [canon_ev hfs]; rfl
   have hlen8 : newer (a.ev (envR (FR l now win) d t win need now l ts tm)) now win (l.getD i rec0).2 <= 8 := Nat.le_trans (List.length_filter_le _ _) hR.le
   have hcells : ∀ j : Nat, j < (l.getD i rec0).2.length -> w.cell? ⟨(β (2 + n + i)).1, (β (2 + n + i)).2 + 0 + j, none⟩ = some (.int .i64 ((l.getD i rec0).2.getD j 0)) := fun j hj => by
    unfold isArrB at c6; split at c6
    ·rename_i r a' v hat
     simp only [bAnd, beq_iff, dEq] at c6; obtain ⟨rfl, rfl⟩ := c6
     obtain ⟨q1, q2⟩ := hh.lies _ _ hat j 0 (.int .i64) (by
      show j < ((recVar a' 11).ev _).toNat; rw [rec_len a' hi5]; exact hj) rfl
     have hwf := hR.wf _ (getD_mem (d := 0) hj)
     have e3 : (envR (FR l now win) d t win need now l ts tm).rd a' (Lk.code (.int .i64) 0) j = (l.getD a' rec0).2.getD j 0 := by
      show IntKind.i64.wrap ((l.getD a' rec0).2.getD (j : Int).toNat 0) = _; rw [Int.toNat_natCast]; exact wrap_fit ((wf_iff .i64 _).1 hwf)
     rw [e3] at q1; rw [show (β (2 + n + a')).2 + 0 + j = (β (2 + n + a')).2 + (j * [Lk.int IntKind.i64].length + 0) by simp]
     exact q1
    ·cases c6
   have hcall := recent_any (w := w) e0 e2 e13 hcells hR.le hw hn ha.2.2.1; refine hcall.mono fun x w' ⟨hx, hb⟩ => ⟨β, Ext.refl _ _, Nat.le_refl _, Stay.refl _, hh.below hb, hfs, ?_, ?_⟩
   ·show (Lit.int .i64 ((recE i (canon fs a)).ev _)).wf = true
    rw [hv]; exact wfI (by omega)
   ·rw [hx]
    show _ = Ending.returned (.int .i64 ((recE i (canon fs a)).ev _)); rw [hv]; rfl
  ·cases h
 ·cases h
end
def isIn (test : Nat -> E) (want : Bool) (fs : Fs) (i : Nat) : Bool := decideE fs (test i) == some want
def allDec (test : Nat -> E) (n : Nat) (fs : Fs) : Bool := (List.range n).all fun i => match decideE fs (test i) with
 | some _ => true
 | none => false
theorem isIn_spec {ρ : Env} {test : Nat -> E} {want : Bool} {n : Nat} {fs : Fs} (hf : SX.FsOk ρ fs) (h : allDec test n fs = true) {i : Nat} (hi : i < n) : isIn test want fs i = true ↔ decide ((test i).ev ρ ≠ 0) = want := by
 have := lAl.1 h i (mRa.2 hi); unfold isIn; cases hd : decideE fs (test i) with
 | none => rw [hd] at this; cases this
 | some b =>
  have hb := decideE_spec hf hd; rw [hb]; simp
theorem filter_range {α : Type} (dflt : α) (p : α -> Bool) : ∀ (l : List α) (n : Nat) (q : Nat -> Bool), l.length = n -> (∀ i, i < n -> q i = p (l.getD i dflt)) -> ((List.range n).filter q).map (fun i => l.getD i dflt) = l.filter p := by
 intro l
 induction l with
 | nil => intro n q hn h; subst hn; rfl
 | cons x l ih =>
  intro n q hn h; obtain ⟨m, rfl⟩ : ∃ m, n = m + 1 := ⟨l.length, by simpa using hn.symm⟩
  rw [List.range_succ_eq_map, List.filter_cons]; have h0 := h 0 (by omega)
  have hs := ih m (fun i => q (i + 1)) (by simpa using hn) (fun i hi => by have := h (i + 1) (by omega); simpa using this)
  have e : ((List.range m).map Nat.succ).filter q = ((List.range m).filter fun i => q (i + 1)).map Nat.succ := by
   rw [List.filter_map]; rfl
  rw [e]; simp only [List.getD_cons_zero] at h0
  have e2 : (((List.range m).filter fun i => q (i + 1)).map Nat.succ).map (fun i => (x :: l).getD i dflt) = ((List.range m).filter fun i => q (i + 1)).map fun i => l.getD i dflt := by
   rw [List.map_map]; rfl
  rw [List.filter_cons, <- h0]; split
  ·rw [List.map_cons, e2, hs]; rfl
  ·rw [e2, hs]
def argsT : List SV := [.ptr 0 0, .int .i64 (.var 11)]
def keepE (i : Nat) : E := lt0 (.lit 0) (recE i (.var 11))
def keptI (n : Nat) (o : Out) : List Nat := (List.range n).filter fun i => isIn keepE true o.fs i
def endC (n : Nat) (f : Option (Nat × Nat)) (e : E) (ws : Out -> List Wr) (v : Out -> SV) (chk : Out -> Bool) (o : Out) : Bool :=
 (chk o && (SV.fit o.fs (fun i => .var i) id o.hp.n (v o) o.v && (v o).flat && Nat.beq (rdKms o.hp).length (ws o).length && picOk n f e (mkPic o.hp (ws o)) o.hp o.fs)) || noWay o.fs
def forgB (n : Nat) : Bool := (runG (spRecent n) 47 argsT n none []).all (endC n none (.var 14) (fun o => (keptI n o).map oldW) (fun o => .int .i64 (.lit (Int.ofNat (n - (keptI n o).length)))) (fun o => allDec keepE n o.fs))
section
variable {F : Mng} {d : List Int} {t win need now : Int} {l : List RV} {ts : List (Nat × Nat)} {tm : List Int} {b lb lc n : Nat} {ms : List Nat} {w w' : World} {f : Option (Nat × Nat)} {e : E}
theorem chg_C {sp : Spc} {g : Nat} {args : List SV} {p : Fs} {ws : Out -> List Wr} {v : Out -> SV} {chk : Out -> Bool} (hP : PackOk l tm win need now n f) (h : LayA win need now l b lb lc ms ts w) (h0 : l = [] -> lb = w.heap.size) (hd : fitsK ks11 d) (ht : (Lit.int .i64 t).wf = true)
  (hsp : SpecOk Tryz.prog (envR F d t win need now l ts tm) w (fun i => ∃ k, k < 2 + n + n /\ (boxA n f k).rw = true /\ (bmA n f b lb lc ms ts k).1 = i) [] sp) (hp : SX.FsOk (envR F d t win need now l ts tm) p) (hargs : SV.oks (envR F d t win need now l ts tm) (2 + n + n) args) (hr : (runG sp g args n f p).all (endC n f e ws v chk) = true) :
  Calls Tryz.prog g (SV.evs (envR F d t win need now l ts tm) (bmA n f b lb lc ms ts) args).toArray w fun x w' => ∃ o, SX.FsOk (envR F d t win need now l ts tm) o.fs /\ chk o = true /\ x = .returned ((v o).ev (envR F d t win need now l ts tm) β0) /\
   (∃ lb' lc' ms' ts', LayA win need (e.ev (envR F d t win need now l ts tm)) ((ws o).map (Wr.view (envR F d t win need now l ts tm) l)) b lb' lc' ms' ts' w' /\ ∀ i ∈ blksA ((ws o).map (Wr.view (envR F d t win need now l ts tm) l)) b lb' ms' ts', i ∈ blksA l b lb ms ts \/ w.heap.size <= i) /\
   Kept w (fun i => i ∈ blksA l b lb ms ts) w' := by
 refine ((callG_run (gl := []) (keep := noKeep) (fuel := 80) mixed okF_ok hsp 30 g args (hpA n f) (p ++ factsA n f) _ w (fun x w' => ∃ o, SX.FsOk (envR F d t win need now l ts tm) o.fs /\ chk o = true /\ x = (v o).ev (envR F d t win need now l ts tm) β0 /\
   (∃ lb' lc' ms' ts', LayA win need (e.ev (envR F d t win need now l ts tm)) ((ws o).map (Wr.view (envR F d t win need now l ts tm) l)) b lb' lc' ms' ts' w' /\ ∀ i ∈ blksA ((ws o).map (Wr.view (envR F d t win need now l ts tm) l)) b lb' ms' ts', i ∈ blksA l b lb ms ts \/ w.heap.size <= i) /\
   Kept w (fun i => i ∈ blksA l b lb ms ts) w') (pack_A hP h h0) (fsOk_app hp (factsA_ok hP h hd ht)) hargs (fun _ h => by cases h)
  (T.holds_mono (fun o ho β' w' hx hl hs hh hf _ => ?_) (T.all_holds hr))).2).mono fun x w' ⟨y, he, o, h1, hc, h2, h3⟩ => ⟨o, h1, hc, by rw [he, h2], h3⟩
 unfold endC at ho; rw [bOr] at ho; rcases ho with ho | ho
 rotate_left
 ·exact (noWay_spec hf ho).elim
 simp only [bAnd, beq_iff, dEq] at ho; obtain ⟨oc, ⟨⟨o1, o2⟩, o3⟩, o4⟩ := ho; obtain ⟨e1, _⟩ := SV.fit_spec (β := β') (m := o.hp.n) hf _ _ o1; obtain ⟨u1, u2⟩ := unpack_A hP h h0 hh hx hs hf o4; have ev : (mkPic o.hp (ws o)).rs.map (Pr.view (envR F d t win need now l ts tm) l) = (ws o).map (Wr.view (envR F d t win need now l ts tm) l) := zipP_view _ _ _ _ _ o3; rw [ev] at u1 u2
 refine ⟨o, hf, oc, ?_, ⟨_, _, _, _, u1, u2⟩, ⟨hh.kept.os, hh.kept.tape, hh.kept.output, hh.kept.size, fun i hi hn => hh.kept.block i hi fun hM => hn (maskA h hP.len hM)⟩⟩
 rw [e1, SV.ev_flat β0 (fun k => β' (id k)) (v o) o2]
 rfl
end
def still (hp : Hp) : Hp := ⟨hp.n, fun k => ⟨false, (hp.box k).c⟩⟩
theorem Heap.still_ {ρ : Env} {w : World} {M : Nat -> Prop} {β : Bm} {hp : Hp} (h : Heap ρ w M β hp w) (ho : ∀ k, k < hp.n -> (hp.box k).c.isObj = false) : Heap ρ w (fun _ => False) β (still hp) w := by
 have key : ∀ (k : Nat) (b : Box), (still hp).at k = some b -> k < hp.n /\ b = ⟨false, (hp.box k).c⟩ /\ hp.at k = some (hp.box k) := fun k b hk => by
  obtain ⟨h1, h2⟩ := Hp.at_some.1 hk; exact ⟨h1, h2.symm, Hp.at_some.2 ⟨h1, rfl⟩⟩
 refine ⟨fun k b hk => ?_, fun j k b b' hj hk hb hb' e => ?_, fun k b hk hr _ => ?_, fun k b hk => ?_, Kept.refl w _, fun k b hk ha => ?_, ObjsOk.none fun k b hk => ?_⟩
 ·obtain ⟨_, rfl, h2⟩ := key k b hk; exact h.lies k (hp.box k) h2
 ·obtain ⟨_, rfl, h2⟩ := key j b hj
  obtain ⟨_, rfl, h3⟩ := key k b' hk; exact h.inj j k (hp.box j) (hp.box k) h2 h3 hb hb' e
 ·obtain ⟨_, rfl, h2⟩ := key k b hk; cases hr
 ·obtain ⟨_, rfl, h2⟩ := key k b hk; exact h.good k (hp.box k) h2
 ·obtain ⟨_, rfl, h2⟩ := key k b hk; exact ⟨(h.arrs k (hp.box k) h2 ha).1, fun e => e⟩
 ·obtain ⟨h1, rfl, h2⟩ := key k b hk; exact ho k h1
def runS (sp : Spc) (g : Nat) (args : List SV) (n : Nat) (p : Fs) : T Out := callG Tryz.prog [] okF sp noKeep 80 30 g args (still (hpA n none)) (p ++ factsA n none)
def lessF (i : Nat) : E := lt0 (recE i (.var 11)) (.var 13)
def qualI (n : Nat) (o : Out) : List Nat := (List.range n).filter fun i => isIn lessF false o.fs i
def qualEnd (n : Nat) (o : Out) : Bool :=
 allDec lessF n o.fs && (match qualI n o with
  | [] => match o.v with
   | .raw (.slice none 0 0) => true
   | _ => false
  | i :: js => match o.v with
   | .slice k 0 m none => Nat.beq m (i :: js).length && isCells o.hp o.fs k 46 12 ((i :: js).flatMap fun i => dsS (recVar i))
   | _ => false)
def qualB (n : Nat) : Bool := (runS (spRecent n) 85 argsT n []).all (qualEnd n)
theorem forg_0 : forgB 0 = true := by kernel_rfl
theorem forg_1 : forgB 1 = true := by kernel_rfl
theorem qual_0 : qualB 0 = true := by kernel_rfl
theorem qual_1 : qualB 1 = true := by kernel_rfl
theorem forg_2 : forgB 2 = true := by kernel_rfl
theorem qual_2 : qualB 2 = true := by kernel_rfl
theorem forg_3 : forgB 3 = true := by kernel_rfl
theorem qual_3 : qualB 3 = true := by kernel_rfl
theorem forg_4 : forgB 4 = true := by kernel_rfl
theorem qual_4 : qualB 4 = true := by kernel_rfl
theorem forg_5 : forgB 5 = true := by kernel_rfl
theorem qual_5 : qualB 5 = true := by kernel_rfl
theorem forg_all {n : Nat} (h5 : n <= 5) : forgB n = true := by
 match n, h5 with
 | 0, _ => exact forg_0
 | 1, _ => exact forg_1
 | 2, _ => exact forg_2
 | 3, _ => exact forg_3
 | 4, _ => exact forg_4
 | 5, _ => exact forg_5
theorem qual_all {n : Nat} (h5 : n <= 5) : qualB n = true := by
 match n, h5 with
 | 0, _ => exact qual_0
 | 1, _ => exact qual_1
 | 2, _ => exact qual_2
 | 3, _ => exact qual_3
 | 4, _ => exact qual_4
 | 5, _ => exact qual_5
def NewSets (l : List (List Int)) (w w' : World) (e : Ending) : Prop :=
 (l = [] /\ e = .returned (.slice none 0 0)) \/ ∃ blk cap rest, l ≠ [] /\ e = .returned (slV blk l.length cap) /\ w.heap.size <= blk /\ w'.heap[blk]? = some (.cells ((l.map dsVals).flatten ++ rest).toArray 46 (0, 0)) /\ l.length * 11 + rest.length = cap * 11
def d0 : List Int := [0, 0, 0, 0, 0, 0, 0, 0, 0, 0, 0]
theorem d0_fits : fitsK ks11 d0 := by
 refine ⟨by decide, by decide, by decide, by decide, by decide, by decide, by decide, by decide, by decide, by decide, by decide, by decide, by decide, by decide, by decide, by decide, by decide, by decide, by decide, by decide, by decide, by decide, rfl⟩
section
variable {s : FS} {b : Nat} {φ : Nat -> Prop} {w w' : World}
theorem rsOk_forget (hs : RsOk s) (t : Int) : RsOk (forget s t) :=
 ⟨hs.win, hs.need, hs.now, Nat.le_trans (List.length_filter_le _ _) hs.five, fun r hr => hs.some r (List.mem_filter.1 hr).1, fun r hr => hs.msgs r (List.mem_filter.1 hr).1, hs.apart.sublist List.filter_sublist⟩
theorem newer_recent (s : FS) (t : Int) (r : List Msg) : newer t s.now s.win (viewA r).2 = recent s t r := by
 unfold newer recent viewA isNew; rw [List.filter_map, List.length_map]; rfl
theorem recE_ev {ρ : Env} {l : List RV} {now win t : Int} (hf : ρ.fn = FR l now win) {a : E} (ha : a.ev ρ = t) (i : Nat) : (recE i a).ev ρ = (newer t now win (l.getD i rec0).2 : Int) := by
 show ρ.fn 30 0 [Int.ofNat i, a.ev ρ] = _; rw [hf, ha]; rfl
theorem forget_any (h : ObA s b φ w) {t : Int} (ht : (Lit.int .i64 t).wf = true) :
  Calls Tryz.prog 47 #[ptrV b, .int .i64 t] w fun e w' => e = .returned (.int .i64 (gone s t : Int)) /\ Turns (forget s t) b φ w w' := by
 obtain ⟨hs, lb0, lc, ms, ts, hlay0, hφ0⟩ := h; obtain ⟨lb, hlay, hφ, h0⟩ := ObA.nilList hlay0 hφ0; have hw := st_wf hs; have hlen : (s.l.map viewA).length = s.l.length := by simp
 have hP : PackOk (s.l.map viewA) [] s.win s.need s.now s.l.length none := ⟨hlen, hs.five, fun r hr => rv_ok hs hr, hw, fun i k he => by cases he⟩
 have hrun := chg_C (F := FR (s.l.map viewA) s.now s.win) (t := t) hP hlay h0 d0_fits ht (spRecent_ok hlen hs.five (fun r hr => rv_ok hs hr) hs.win hs.now) (p := []) (fun _ h => by cases h) (args := argsT) ⟨by show 0 < _; omega, ht, trivial⟩ (forg_all hs.five)
 refine hrun.mono fun x w' ⟨o, ho, hc, hx, hl, hk⟩ => ?_
 have hin : ∀ i, i < s.l.length -> isIn keepE true o.fs i = decide (0 < recent s t (s.l.getD i [])) := fun i hi => by
  have h1 := isIn_spec (want := true) ho hc hi
  have h2 : (keepE i).ev (envR (FR (s.l.map viewA) s.now s.win) d0 t s.win s.need s.now (s.l.map viewA) ts []) ≠ 0 ↔ 0 < recent s t (s.l.getD i []) := by
   unfold keepE; rw [lt0_ev, recE_ev rfl (t := t) rfl, view_get hi, newer_recent, lit_ev]; omega
  rw [decide_eq_true_iff, h2] at h1
  by_cases hq : 0 < recent s t (s.l.getD i [])
  ·rw [decide_eq_true hq, h1.2 hq]
  ·rw [decide_eq_false hq]
   cases hz : isIn keepE true o.fs i with
   | false => rfl
   | true => exact absurd (h1.1 hz) hq
 have hkept : (keptI s.l.length o).map (fun i => s.l.getD i []) = Frm.kept s t := filter_range [] (fun r => decide (0 < recent s t r)) s.l s.l.length _ rfl hin
 have hnum : (keptI s.l.length o).length = (Frm.kept s t).length := by rw [<- hkept, List.length_map]
 refine ⟨?_, Turns.of (rsOk_forget hs t) ?_ hφ hl hk⟩
 ·rw [hx]
  show Ending.returned (.int .i64 (Int.ofNat (s.l.length - (keptI s.l.length o).length))) = _; rw [hnum]; rfl
 ·show (Frm.kept s t).map viewA = _
  rw [<- hkept, List.map_map, List.map_map]; refine List.map_congr_left fun i hi => ?_
  have hi' : i < s.l.length := mRa.1 (List.mem_filter.1 hi).1; show viewA (s.l.getD i []) = Wr.view _ _ (oldW i); rw [old_view hP hi', view_get hi']
theorem sets_ev {ρ : Env} {β : Bm} (g : Nat -> List Int) : ∀ js : List Nat, (∀ i ∈ js, ∀ q, q < 11 -> (recVar i q).ev ρ = (g i).getD q 0) -> SV.evs ρ β (js.flatMap fun i => dsS (recVar i)) = ((js.map g).map dsVals).flatten
 | [], _ => rfl
 | i :: js, h => by
  rw [List.flatMap_cons, evs_append, sets_ev g js fun j hj => h j (lTl _ hj), dsS_ev (h i (lHd ..))]
  rfl
theorem sets_len : ∀ js : List Nat, (js.flatMap fun i => dsS (recVar i)).length = js.length * 11
 | [] => rfl
 | i :: js => by
  rw [List.flatMap_cons, List.length_append, sets_len js, List.length_cons]; show 11 + _ = _; omega
theorem qual_any (h : ObA s b φ w) {t : Int} (ht : (Lit.int .i64 t).wf = true) :
  Calls Tryz.prog 85 #[ptrV b, .int .i64 t] w fun e w' => NewSets (qual s t) w w' e /\ Below w.heap.size w w' := by
 obtain ⟨hs, lb0, lc, ms, ts, hlay0, hφ0⟩ := h; obtain ⟨lb, hlay, hφ, h0⟩ := ObA.nilList hlay0 hφ0; have hw := st_wf hs; have hlen : (s.l.map viewA).length = s.l.length := by simp
 have hP : PackOk (s.l.map viewA) [] s.win s.need s.now s.l.length none := ⟨hlen, hs.five, fun r hr => rv_ok hs hr, hw, fun i k he => by cases he⟩
 have hh0 := Heap.still_ (pack_A (F := FR (s.l.map viewA) s.now s.win) (d := d0) (t := t) (tm := []) hP hlay h0) (fun k hk => by
  rcases box_cases hk with rfl | rfl | ⟨i, hi, rfl⟩ | ⟨i, hi, rfl⟩
  ·rfl
  ·by_cases hz : s.l.length = 0
   ·show (boxA s.l.length none 1).c.isObj = false
    rw [hz]; rfl
   ·show (boxA s.l.length none 1).c.isObj = false
    rw [boxA_1 (by omega)]; rfl
  ·show (boxA s.l.length none (2 + i)).c.isObj = false
   rw [boxA_r hi]; rfl
  ·show (boxA s.l.length none (2 + s.l.length + i)).c.isObj = false
   rw [boxA_t]; rfl)
 have hargs : SV.oks (envR (FR (s.l.map viewA) s.now s.win) d0 t s.win s.need s.now (s.l.map viewA) ts []) (2 + s.l.length + s.l.length) argsT := ⟨by show 0 < _; omega, ht, trivial⟩
 refine ((callG_run (gl := []) (keep := noKeep) (fuel := 80) mixed okF_ok (spRecent_ok hlen hs.five (fun r hr => rv_ok hs hr) hs.win hs.now) 30 85 argsT (still (hpA s.l.length none)) ([] ++ factsA s.l.length none) _ w
  (fun x w' => NewSets (qual s t) w w' (.returned x) /\ Below w.heap.size w w') hh0 (fsOk_app (fun _ h => by cases h) (factsA_ok hP hlay d0_fits ht)) hargs (fun _ h => by cases h)
  (T.holds_mono (fun o ho β' w' hx hl hst hh hf _ => ?_) (T.all_holds (qual_all hs.five)))).2).mono fun x w' ⟨y, he, h1, h2⟩ => ⟨by rw [he]; exact h1, h2⟩
 unfold qualEnd at ho; rw [bAnd] at ho; obtain ⟨hc, ho⟩ := ho; refine ⟨?_, hh.kept.to_below⟩
 have hin : ∀ i, i < s.l.length -> isIn lessF false o.fs i = decide (s.need <= (recent s t (s.l.getD i []) : Int)) := fun i hi => by
  have h1 := isIn_spec (want := false) hf hc hi
  have h2 : (lessF i).ev (envR (FR (s.l.map viewA) s.now s.win) d0 t s.win s.need s.now (s.l.map viewA) ts []) ≠ 0 ↔ (recent s t (s.l.getD i []) : Int) < s.need := by
   unfold lessF; rw [lt0_ev, recE_ev rfl (t := t) rfl, view_get hi, newer_recent]; rfl
  rw [decide_eq_false_iff_not, h2] at h1
  by_cases hq : s.need <= (recent s t (s.l.getD i []) : Int)
  ·rw [decide_eq_true hq, h1.2 (by omega)]
  ·rw [decide_eq_false hq]
   cases hz : isIn lessF false o.fs i with
   | false => rfl
   | true => exact absurd (h1.1 hz) (by omega)
 have hq : (qualI s.l.length o).map (fun i => s.l.getD i []) = quals s t := filter_range [] (fun r => decide (s.need <= (recent s t r : Int))) s.l s.l.length _ rfl hin
 have hqs : qual s t = (qualI s.l.length o).map fun i => (lastM (s.l.getD i [])).d := by
  unfold qual; rw [<- hq, List.map_map]; rfl
 have hmem : ∀ i ∈ qualI s.l.length o, i < s.l.length := fun i hi => mRa.1 (List.mem_filter.1 hi).1
 rw [hqs]; split at ho
 ·rename_i hnil
  rw [hnil]; split at ho
  ·rename_i hv
   rw [hv]; exact .inl ⟨rfl, rfl⟩
  ·cases ho
 ·rename_i i js hcons
  rw [hcons] at hmem ⊢; split at ho
  ·rename_i k m hv
   rw [bAnd, beq_iff, dEq] at ho; obtain ⟨hm, ho⟩ := ho; obtain ⟨c, hk, _⟩ := isCells_spec hh hf ho; unfold isCells at ho; rw [hk] at ho; simp only [bAnd] at ho; obtain ⟨e1, _⟩ := SV.fitL_spec (β := β') (m := o.hp.n) hf _ _ ho.2; rw [envSub_var] at e1; have e1 : SV.evs _ β' c = SV.evs _ β' ((i :: js).flatMap fun i => dsS (recVar i)) := e1
   obtain ⟨rest, r1, r2⟩ := hh.lies k _ hk
   have hlc : c.length = (i :: js).length * 11 := by
    have := congrArg List.length e1; rw [SV.evs_map, SV.evs_map, List.length_map, List.length_map, sets_len] at this; exact this
   rw [e1, sets_ev (fun i => (lastM (s.l.getD i [])).d) (i :: js) (fun j hj q hq' => by
    have hj' := hmem j hj; rw [rec_d j (by have := hs.five; omega) q hq', view_get hj']; rfl)] at r1
   refine .inr ⟨(β' k).1, (β' k).2, rest, by simp, ?_, ?_, r1, ?_⟩
   ·rw [hv]
    show Ending.returned (.slice (some ⟨(β' k).1, 0, none⟩) m (Option.getD none (β' k).2)) = _; rw [hm]; simp [slV]
   ·rcases hh.mine k _ hk rfl rfl with h1 | h1
    ·exact h1.elim
    ·exact h1
   ·rw [List.length_map, <- hlc]; exact r2
  ·cases ho
end
abbrev SpcT := FuncId -> List SV -> Hp -> Fs -> Option (T Out)
def SpecOkT (P : Program) (ρ : Env) (w0 : World) (M : Nat -> Prop) (gl : Gl) (sp : SpcT) : Prop := ∀ (f : FuncId) (args : List SV) (hp : Hp) (fs : Fs) (t : T Out), sp f args hp fs = some t ->
 ∀ (β : Bm) (w : World) (K : Value -> World -> Prop), Heap ρ w0 M β hp w -> SX.FsOk ρ fs -> SV.oks ρ hp.n args -> GlOk gl β hp.n -> Goes ρ w0 M β hp t K -> Calls P f (SV.evs ρ β args).toArray w fun e w' => ∃ v, e = .returned v /\ K v w'
def ofSpc (sp : Spc) : SpcT := fun f args hp fs => (sp f args hp fs).map T.ok
def orT (a b : SpcT) : SpcT := fun f args hp fs => match a f args hp fs with
 | some o => some o
 | none => b f args hp fs
def callH (P : Program) (gl : Gl) (okF : FuncId -> Bool) (sp : SpcT) (keep : FuncId -> Nat -> List Nat) (fuel : Nat) : Nat -> Caller
 | 0, _, _, _, _ => .bad 150
 | n + 1, f, args, hp, fs =>
  if okF f then
   match sp f args hp fs with
   | some t => t
   | none => match P.funcs[f]? with
    | some fn => match fn.body with
     | some c => (exec P gl (callH P gl okF sp keep fuel n) (keep f) fuel c { sz := args.length + (fn.ntmps - args.length), tmps := fun i => args.getD i undefS, hp := hp, facts := fs }).bind fun r => match r.x with
      | .exit _ => .bad 151
      | _ => match resultsS P r.st fn.results.toList with
       | some vs => .ok ⟨packS vs, r.st.hp, r.st.facts⟩
       | none => .bad 152
     | none => .bad 153
    | none => .bad 154
  else .bad 155
section
variable {P : Program} {ρ : Env} {w0 : World} {M : Nat -> Prop} {gl : Gl}
theorem ofSpc_ok {sp : Spc} (h : SpecOk P ρ w0 M gl sp) : SpecOkT P ρ w0 M gl (ofSpc sp) := fun f args hp fs t ht β w K hh hf ha hg hk => by
 unfold ofSpc at ht; cases ho : sp f args hp fs with
 | none => rw [ho] at ht; cases ht
 | some o =>
  rw [ho] at ht; obtain rfl := sinj ht; exact (h f args hp fs o ho β w hh hf ha hg).mono fun e w' ⟨β', h1, h2, h3, h4, h5, h6, h7⟩ => ⟨_, h7, hk β' w' h1 h2 h3 h4 h5 h6⟩
theorem orT_ok {a b : SpcT} (h1 : SpecOkT P ρ w0 M gl a) (h2 : SpecOkT P ρ w0 M gl b) : SpecOkT P ρ w0 M gl (orT a b) := fun f args hp fs t ht => by
 unfold orT at ht; split at ht
 ·rename_i o' ho
  obtain rfl := sinj ht; exact h1 f args hp fs o' ho
 ·exact h2 f args hp fs t ht
theorem callH_run {okF : FuncId -> Bool} {sp : SpcT} {keep : FuncId -> Nat -> List Nat} {fuel : Nat} (hm : P.follows .mixedOrders = true) (hok : ∀ f, okF f = true -> ∀ xs w, (callFunc f xs).run P w = .ok (.enter f xs) w) (hsp : SpecOkT P ρ w0 M gl sp) :
  ∀ n : Nat, CallOk P ρ w0 M gl (callH P gl okF sp keep fuel n)
 | 0 => fun f args hp fs β w K hh hf ha hg h => h.elim
 | n + 1 => fun f args hp fs β w K hh hf ha hg h => by
  unfold callH at h; split at h
  ·rename_i hof
   refine ⟨hok f hof, ?_⟩; split at h
   ·rename_i t ht
    exact hsp f args hp fs t ht β w K hh hf ha hg h
   ·split at h
    ·rename_i fn hfn
     split at h
     ·rename_i c hb
      unfold Goes at h; rw [T.holds_bind] at h; refine calls_of_wp hfn hb ?_; refine exec_run (callH_run hm hok hsp n) hm c β _ _ w _ (entry_conc (fn := fn) hh hf ha hg) (T.holds_mono (fun r hr => ?_) h)
      obtain ⟨x, st'⟩ := r; intro β' a' w' hx hl hs hc'; cases x with
      | exit id => exact hr.elim
      | normal =>
       simp only at hr; split at hr
       ·rename_i vs hvs
        obtain ⟨r1, r2⟩ := results_run hc' hvs; exact ⟨hc'.defers, _, r1, _, rfl, hr β' w' hx hl hs hc'.heap hc'.facts r2⟩
       ·exact hr.elim
      | ret =>
       simp only at hr; split at hr
       ·rename_i vs hvs
        obtain ⟨r1, r2⟩ := results_run hc' hvs; exact ⟨hc'.defers, _, r1, _, rfl, hr β' w' hx hl hs hc'.heap hc'.facts r2⟩
       ·exact hr.elim
     ·exact h.elim
    ·exact h.elim
  ·exact h.elim
end
section
variable {ρ : Env} {w0 w w' : World} {M : Nat -> Prop} {β : Bm} {hp : Hp} {φ : Nat -> Nat -> Prop} {k q : Nat} {es es' : List E}
theorem Heap.turn_ (h : Heap ρ w0 M β hp w) (ho : ObjsOk ρ w0 M β hp φ w) (hk : hp.at k = some ⟨true, .obj q es⟩) {φ' : Nat -> Prop} (h1 : Ob q (E.evs ρ es') (β k).1 φ' w') (h2 : ∀ i, φ' i -> φ k i \/ w.heap.size <= i) (h3 : Kept w (φ k) w') :
  Heap ρ w0 M β (hp.put k ⟨true, .obj q es'⟩) w' := by
 have hlt := Hp.at_lt hk
 have cases_ : ∀ (j : Nat) (x : Box), (hp.put k ⟨true, .obj q es'⟩).at j = some x -> (j ≠ k /\ hp.at j = some x) \/ (j = k /\ x = ⟨true, .obj q es'⟩) := fun j x hj => by
  by_cases he : j = k
  ·subst he; rw [Hp.at_put_same _ hlt] at hj; exact .inr ⟨rfl, (sinj hj).symm⟩
  ·rw [Hp.at_put_ne _ he] at hj; exact .inl ⟨he, hj⟩
 refine ⟨fun j x hj => ?_, fun i j x y hi hj hx hy e => ?_, fun j x hj hr hx => ?_, fun j x hj => ?_, ⟨h3.os.trans h.kept.os, h3.tape.trans h.kept.tape, h3.output.trans h.kept.output, Nat.le_trans h.kept.size h3.size, fun i hi hm => ?_⟩, fun j x hj ha => ?_, fun j => if j = k then φ' else φ j, ?_, ?_, ?_⟩
 ·rcases cases_ j x hj with ⟨hne, hj'⟩ | ⟨rfl, rfl⟩
  ·have hl := h.lies j x hj'
   cases hv : x.c.live with
   | true => exact Bx.lies_block (h3.block _ (Bx.lies_lt hl hv) fun hi => (ho.apart k j _ x hk hj' rfl (Ne.symm hne) _ hi).1 hv rfl) hl
   | false =>
    cases ha : x.c.isArr with
    | false => exact Bx.not_live hv ha hl
    | true =>
     obtain ⟨a1, a2⟩ := h.arrs j x hj' ha; refine Bx.lies_block (h3.block _ (Nat.lt_of_lt_of_le a1 h.kept.size) fun hi => ?_) hl
     rcases ho.own k _ hk rfl _ hi with h4 | h4
     ·exact a2 h4
     ·omega
  ·trivial
 ·rcases cases_ i x hi with ⟨hne, hi'⟩ | ⟨rfl, rfl⟩ <;> rcases cases_ j y hj with ⟨hne', hj'⟩ | ⟨rfl, rfl⟩
  ·exact h.inj i j x y hi' hj' hx hy e
  ·cases hy
  ·cases hx
  ·rfl
 ·rcases cases_ j x hj with ⟨hne, hj'⟩ | ⟨rfl, rfl⟩
  ·exact h.mine j x hj' hr hx
  ·cases hx
 ·simp only [Hp.n_put]
  rcases cases_ j x hj with ⟨hne, hj'⟩ | ⟨rfl, rfl⟩
  ·exact h.good j x hj'
  ·trivial
 ·rw [h3.block i (Nat.lt_of_lt_of_le hi h.kept.size) fun hi' => ?_]
  ·exact h.kept.block i hi hm
  ·rcases ho.own k _ hk rfl _ hi' with h4 | h4
   ·exact hm h4
   ·omega
 ·rcases cases_ j x hj with ⟨hne, hj'⟩ | ⟨rfl, rfl⟩
  ·exact h.arrs j x hj' ha
  ·cases ha
 ·intro j x q' es2 hj e
  rcases cases_ j x hj with ⟨hne, hj'⟩ | ⟨rfl, rfl⟩
  ·simp only [if_neg hne]
   refine Ob_keep (ho.has j x q' es2 hj' e) fun i hi => h3.block i (ho.lt hj' (by rw [e]; rfl) hi) fun hi' => ?_
   exact (ho.apart j k x _ hj' hk (by rw [e]; rfl) hne i hi).2 rfl hi'
  ·cases e
   simp only [if_true]; exact h1
 ·intro j x hj hb i hi
  rcases cases_ j x hj with ⟨hne, hj'⟩ | ⟨rfl, rfl⟩
  ·simp only [if_neg hne] at hi
   exact ho.own j x hj' hb i hi
  ·simp only [if_true] at hi
   rcases h2 i hi with h4 | h4
   ·exact ho.own _ _ hk rfl i h4
   ·have := h.kept.size; exact .inr (by omega)
 ·intro i j x y hi hj hb hij a ha
  rcases cases_ i x hi with ⟨hne, hi'⟩ | ⟨rfl, rfl⟩
  ·simp only [if_neg hne] at ha
   rcases cases_ j y hj with ⟨hne', hj'⟩ | ⟨rfl, rfl⟩
   ·simp only [if_neg hne']
    exact ho.apart i j x y hi' hj' hb hij a ha
   ·refine ⟨fun hv => (by cases hv), fun _ => ?_⟩
    simp only [if_true]; intro hc; rcases h2 a hc with h4 | h4
    ·exact (ho.apart i _ x _ hi' hk hb hij a ha).2 rfl h4
    ·have := ho.lt hi' hb ha; omega
  ·simp only [if_true] at ha
   rcases cases_ j y hj with ⟨hne', hj'⟩ | ⟨rfl, rfl⟩
   ·simp only [if_neg hne']
    rcases h2 a ha with h4 | h4
    ·exact ho.apart _ j _ y hk hj' rfl hij a h4
    ·refine ⟨fun hv e => ?_, fun hv hc => ?_⟩
     ·have := Bx.lies_lt (h.lies j y hj') hv; omega
     ·have := ho.lt hj' hv hc; omega
   ·exact absurd rfl hij
theorem Heap.newObj (h : Heap ρ w0 M β hp w) (hb : Below w.heap.size w w') {b : Nat} {φ' : Nat -> Prop} (h1 : Ob q (E.evs ρ es) b φ' w') (h2 : ∀ i, φ' i -> w.heap.size <= i) :
  Heap ρ w0 M (upd β hp.n (b, 0)) (hp.push ⟨true, .obj q es⟩) w' := by
 obtain ⟨φ, ho⟩ := h.objs; have hh := h.below hb; have hx := upd_ext β hp.n (b, 0)
 have cases_ : ∀ (k : Nat) (x : Box), (hp.push ⟨true, .obj q es⟩).at k = some x -> (k < hp.n /\ hp.at k = some x /\ upd β hp.n (b, 0) k = β k) \/ (k = hp.n /\ x = ⟨true, .obj q es⟩) := fun k x hk => by
  have hlt' := Hp.at_lt hk; simp only [Hp.n_push] at hlt'
  by_cases hlt : k < hp.n
  ·rw [Hp.at_push_lt _ hlt] at hk
   exact .inl ⟨hlt, hk, hx k hlt⟩
  ·obtain rfl : k = hp.n := by omega
   rw [Hp.at_push_n] at hk; exact .inr ⟨rfl, (sinj hk).symm⟩
 have keepB : ∀ (j : Nat) (x : Box) (i : Nat), hp.at j = some x -> x.c.isObj = true -> φ j i -> w'.heap[i]? = w.heap[i]? := fun j x i hj hx hi => hb.block i (ho.lt hj hx hi)
 refine ⟨fun k x hk => ?_, fun j k x y hj hk hlx hly he => ?_, fun k x hk hr hlx => ?_, fun k x hk => ?_, hh.kept, fun k x hk hax => ?_, fun j => if j = hp.n then φ' else φ j, ?_, ?_, ?_⟩
 ·rcases cases_ k x hk with ⟨hlt, hk', e⟩ | ⟨rfl, rfl⟩
  ·rw [e]; exact Bx.lies_ext hx (hh.good k x hk') (hh.lies k x hk')
  ·trivial
 ·rcases cases_ j x hj with ⟨hlt, hj', e⟩ | ⟨rfl, rfl⟩ <;> rcases cases_ k y hk with ⟨hlt', hk', e'⟩ | ⟨rfl, rfl⟩
  ·rw [e, e'] at he; exact h.inj j k x y hj' hk' hlx hly he
  ·cases hly
  ·cases hlx
  ·rfl
 ·rcases cases_ k x hk with ⟨hlt, hk', e⟩ | ⟨rfl, rfl⟩
  ·rw [e]; exact h.mine k x hk' hr hlx
  ·cases hlx
 ·simp only [Hp.n_push]
  rcases cases_ k x hk with ⟨hlt, hk', e⟩ | ⟨rfl, rfl⟩
  ·exact Bx.ok_mono (by omega) (h.good k x hk')
  ·trivial
 ·rcases cases_ k x hk with ⟨hlt, hk', e⟩ | ⟨rfl, rfl⟩
  ·rw [e]; exact h.arrs k x hk' hax
  ·cases hax
 ·intro j x q' es2 hj e
  rcases cases_ j x hj with ⟨hlt, hj', e'⟩ | ⟨rfl, rfl⟩
  ·simp only [if_neg (Nat.ne_of_lt hlt)]
   rw [e']; exact Ob_keep (ho.has j x q' es2 hj' e) fun i hi => keepB j x i hj' (by rw [e]; rfl) hi
  ·cases e
   simp only [if_true, upd_same]; exact h1
 ·intro j x hj hb' i hi
  rcases cases_ j x hj with ⟨hlt, hj', e'⟩ | ⟨rfl, rfl⟩
  ·simp only [if_neg (Nat.ne_of_lt hlt)] at hi
   exact ho.own j x hj' hb' i hi
  ·simp only [if_true] at hi
   have := h2 i hi; have := h.kept.size; exact .inr (by omega)
 ·intro i j x y hi hj hb' hij a ha
  rcases cases_ i x hi with ⟨hlt, hi', e⟩ | ⟨rfl, rfl⟩ <;> rcases cases_ j y hj with ⟨hlt', hj', e'⟩ | ⟨rfl, rfl⟩
  ·simp only [if_neg (Nat.ne_of_lt hlt)] at ha
   simp only [if_neg (Nat.ne_of_lt hlt')]; rw [e']; exact ho.apart i j x y hi' hj' hb' hij a ha
  ·simp only [if_neg (Nat.ne_of_lt hlt)] at ha
   refine ⟨fun hv => (by cases hv), fun _ => ?_⟩
   simp only [if_true]; intro hc; have := h2 a hc; have := ho.lt hi' hb' ha; omega
  ·simp only [if_true] at ha
   simp only [if_neg (Nat.ne_of_lt hlt')]; have h4 := h2 a ha; refine ⟨fun hv e => ?_, fun hv hc => ?_⟩
   ·rw [e'] at e
    have := Bx.lies_lt (h.lies j y hj') hv; omega
   ·have := ho.lt hj' hv hc; omega
  ·exact absurd rfl hij
end
def newF : Fs := [(lt0 (.var 12) (.lit 1), false), (lt0 (.lit 1125899906842624) (.var 12), false), (lt0 (.var 13) (.lit 1), false), (lt0 (.lit 8) (.var 13), false)]
def newEnd (o : Out) : Bool := match o.v with
 | .ptr k 0 => isCells o.hp o.fs k 112 0 [.int .i64 (.var 12), .int .i64 (.var 13), .int .i64 (.lit 0), .raw (.slice none 0 0)]
 | _ => false
theorem new_run : (callG Tryz.prog [] okF noSpec noKeep 80 30 24 [.int .i64 (.var 12), .int .i64 (.var 13)] .nil newF).all newEnd = true := by kernel_rfl
end
end Go.Proofs.YtfcpmapfhgibpaaGreatDoor
