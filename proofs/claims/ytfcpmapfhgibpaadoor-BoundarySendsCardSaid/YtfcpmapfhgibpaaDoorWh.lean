/- Hear, recent. -/
import Derived.Test.YtfcpmapfhgibpaaDoorWf
import Derived.Test.YtfcpmapfhgibpaaDoorWg
import Derived.Deep.Light
import Derived.Lib.Hide
import Derived.WalkLawsBesides
import Derived.Outline
import Derived.Deep.QuietTactic
namespace Go.Proofs.YtfcpmapfhgibpaaDoor
set_option maxRecDepth 100000
open Go Go.RowKit SX Frm Frn
set_option linter.unusedVariables false
set_option linter.unusedSimpArgs false

theorem found_all {n i k : Nat} (h5 : n ≤ 5) (hi : i < n) (h1 : 1 ≤ k) (h8 : k ≤ 8) : foundB n i k = true := by
  have key : ∀ p : Nat → Bool, upTo 7 (fun q => p (q + 1)) = true → p k = true := fun p hp => by
    have := upTo_spec hp (i := k - 1) (by omega)
    simpa [show k - 1 + 1 = k by omega] using this
  match n, i, h5, hi with
  | 1, 0, _, _ => exact key _ found_1_0
  | 2, 0, _, _ => exact key _ found_2_0
  | 2, 1, _, _ => exact key _ found_2_1
  | 3, 0, _, _ => exact key _ found_3_0
  | 3, 1, _, _ => exact key _ found_3_1
  | 3, 2, _, _ => exact key _ found_3_2
  | 4, 0, _, _ => exact key _ found_4_0
  | 4, 1, _, _ => exact key _ found_4_1
  | 4, 2, _, _ => exact key _ found_4_2
  | 4, 3, _, _ => exact key _ found_4_3
  | 5, 0, _, _ => exact key _ found_5_0
  | 5, 1, _, _ => exact key _ found_5_1
  | 5, 2, _, _ => exact key _ found_5_2
  | 5, 3, _, _ => exact key _ found_5_3
  | 5, 4, _, _ => exact key _ found_5_4
theorem fresh_all {n : Nat} (hn : n < 5) : freshB n = true := by
  match n, hn with
  | 0, _ => exact fresh_0
  | 1, _ => exact fresh_1
  | 2, _ => exact fresh_2
  | 3, _ => exact fresh_3
  | 4, _ => exact fresh_4
theorem drop_all {j : Nat} (hj : j < 5) : dropB j = true := by
  match j, hj with
  | 0, _ => exact drop_0
  | 1, _ => exact drop_1
  | 2, _ => exact drop_2
  | 3, _ => exact drop_3
  | 4, _ => exact drop_4
section
variable {F : Nat → Nat → List Int → Int} {d : List Int} {t win need now : Int} {l : List RV} {ts : List (Nat × Nat)} {tm : List Int} {b lb lc n : Nat} {ms : List Nat} {w w' : World} {f : Option (Nat × Nat)}
theorem v11_ev : (E.var 11).ev (envR F d t win need now l ts tm) = t := rfl
theorem v14_ev : (E.var 14).ev (envR F d t win need now l ts tm) = now := rfl
theorem lit_ev {ρ : Env} (k : Int) : (E.lit k).ev ρ = k := rfl
/-- A message that is refused. -/
theorem hear_err {lv : Value} (hhead : w.heap[b]? = some (.cells #[.int .i64 win, .int .i64 need, .int .i64 now, lv] 106 (0, 0))) (hw : (Lit.int .i64 win).wf = true ∧ (Lit.int .i64 need).wf = true ∧ (Lit.int .i64 now).wf = true) (hd : fitsK ks11 d) (ht : (Lit.int .i64 t).wf = true)
    {j : Nat} {c : Int} (hF : SX.FsOk (envR F d t win need now [] [] []) (errF j)) (hB : errB j c lv = true) :
    Calls Tryd.prog 45 #[ptrV b, .agg (dsVals d).toArray, .int .i64 t] w fun e w' => e = .returned (.int .i64 c) ∧ Below w.heap.size w w' := by
  have hh : Heap (envR F d t win need now [] [] []) w (fun i => ∃ k, k < 1 ∧ (headB lv k).rw = true ∧ ((fun _ => (b, 0) : Bm) k).1 = i) (fun _ => (b, 0)) ⟨1, headB lv⟩ w :=
    heap_of (fun k hk => by
      show w.heap[b]? = _
      rw [hhead]; rfl) (fun j k hj hk _ => by omega) (fun k hk => ⟨hw.1, hw.2.1, hw.2.2, trivial, trivial⟩) (fun k hk ha => by cases ha) (fun k hk => rfl)
  have hr := ((callG_run (gl := []) (keep := noKeep) (fuel := 80) mixed okF_ok noSpec_ok 30 45 (argsH .var) ⟨1, headB lv⟩ (errF j) _ w (fun x w' => x = .int .i64 c ∧ Below w.heap.size w w') hh hF ⟨(by decide : 0 < 1), dsS_ok (fun i hi => arg_ev i hi) hd, ht, trivial⟩ (fun _ h => by cases h)
    (T.holds_mono (fun o ho β' w' hx hl hs hh hf _ => ?_) (T.all_holds hB))).2).mono fun x w' ⟨y, he, h1, h2⟩ => (⟨by rw [he, h1], h2⟩ : x = Ending.returned (.int .i64 c) ∧ Below w.heap.size w w')
  · have e : SV.evs (envR F d t win need now [] [] []) (fun _ => (b, 0)) (argsH .var) = [ptrV b, .agg (dsVals d).toArray, .int .i64 t] := by
      show [ptrV b, Value.agg (SV.evs _ _ (dsS .var)).toArray, Value.int .i64 t] = _
      rw [dsS_ev (fun i hi => arg_ev i hi)]
    rw [e] at hr
    exact hr
  · unfold isLitV at ho
    split at ho
    · rename_i x hv
      obtain rfl : x = c := by simpa using ho
      refine ⟨by rw [hv]; rfl, ⟨hh.kept.os, hh.kept.tape, hh.kept.output, hh.kept.size, fun i hi => hh.kept.block i hi fun ⟨k, _, hr, _⟩ => by cases hr⟩⟩
    · cases ho
theorem old_view (hP : PackOk l tm win need now n f) {j : Nat} (hj : j < n) : Wr.view (envR F d t win need now l ts tm) l (oldW j) = l.getD j rec0 := by
  have h5 : j < 5 := Nat.lt_of_lt_of_le hj hP.five
  have hr := hP.recs (l.getD j rec0) (getD_mem (by rw [hP.len]; exact hj))
  have e : ((List.range 11).map fun q => (recVar j q).ev (envR F d t win need now l ts tm)) = (l.getD j rec0).1 := by
    rw [← range11_self (fits_len hr.fits)]
    exact List.map_congr_left fun q hq => rec_d j h5 q (List.mem_range.1 hq)
  show ((List.range 11).map fun q => (recVar j q).ev _, (l.getD j rec0).2) = _
  rw [e]
theorem arg_view (hd : d.length = 11) : ((List.range 11).map fun q => (E.var q).ev (envR F d t win need now l ts tm)) = d := by
  have e : ((List.range 11).map fun q => (E.var q).ev (envR F d t win need now l ts tm)) = (List.range 11).map fun q => d.getD q 0 := List.map_congr_left fun q hq => arg_ev q (List.mem_range.1 hq)
  rw [e, range11_self hd]
theorem eqOrg_ev {g : Nat → E} {j : Nat} (hj : j < 5) (h7 : (g 7).ev (envR F d t win need now l ts tm) = d.getD 7 0) (h8 : (g 8).ev (envR F d t win need now l ts tm) = d.getD 8 0) :
    (eqOrg g j).ev (envR F d t win need now l ts tm) ≠ 0 ↔ org (l.getD j rec0).1 = org d := by
  have e1 := eqk_ev (ρ := envR F d t win need now l ts tm) .u64 (recVar j 7) (g 7)
  have e2 := eqk_ev (ρ := envR F d t win need now l ts tm) .i64 (recVar j 8) (g 8)
  rw [rec_d j hj 7 (by decide), h7] at e1
  rw [rec_d j hj 8 (by decide), h8] at e2
  have e0 : (eqOrg g j).ev (envR F d t win need now l ts tm) = if (E.bin .eq .u64 (recVar j 7) (g 7)).ev (envR F d t win need now l ts tm) ≠ 0 ∧ (E.bin .eq .i64 (recVar j 8) (g 8)).ev (envR F d t win need now l ts tm) ≠ 0 then 1 else 0 := rfl
  rw [e0]
  refine ⟨fun h => ?_, fun h => ?_⟩
  · by_cases hc : (E.bin .eq .u64 (recVar j 7) (g 7)).ev (envR F d t win need now l ts tm) ≠ 0 ∧ (E.bin .eq .i64 (recVar j 8) (g 8)).ev (envR F d t win need now l ts tm) ≠ 0
    · exact Prod.ext (e1.1 hc.1) (e2.1 hc.2)
    · rw [if_neg hc] at h; exact absurd rfl h
  · rw [if_pos ⟨e1.2 (congrArg Prod.fst h), e2.2 (congrArg Prod.snd h)⟩]; decide
theorem notF_ok {g : Nat → E} {m : Nat} (hm : m ≤ 5) (h7 : (g 7).ev (envR F d t win need now l ts tm) = d.getD 7 0) (h8 : (g 8).ev (envR F d t win need now l ts tm) = d.getD 8 0) (h : ∀ j, j < m → org (l.getD j rec0).1 ≠ org d) : SX.FsOk (envR F d t win need now l ts tm) (notF g m) := fun p hp => by
  obtain ⟨j, hj, rfl⟩ := List.mem_map.1 hp
  have hj' := List.mem_range.1 hj
  show (eqOrg g j).ev _ ≠ 0 ↔ false = true
  rw [eqOrg_ev (by omega) h7 h8]
  exact ⟨fun e => absurd e (h j hj'), fun e => Bool.noConfusion e⟩
theorem goodF_ok {g : Nat → E} (hg : ∀ j, j < 11 → (g j).ev (envR F d t win need now l ts tm) = d.getD j 0) (h1 : 0 ≤ t ∧ t ≤ maxSim) (h2 : now ≤ t) (h3 : d.getD 7 0 ≠ d.getD 9 0) (h4 : d.getD 6 0 < 32) : SX.FsOk (envR F d t win need now l ts tm) (goodF g) := by
  unfold maxSim at h1
  rw [goodF, fsOk_cons, fsOk_cons, fsOk_cons, fsOk_cons, fsOk_cons, fsOk_nil, lt0_ev, lt0_ev, lt0_ev, lt0_ev, eqk_ev, hg 7 (by decide), hg 9 (by decide), hg 6 (by decide), v11_ev, v14_ev, lit_ev, lit_ev, lit_ev]
  exact ⟨⟨fun h => by omega, fun h => Bool.noConfusion h⟩, ⟨fun h => by omega, fun h => Bool.noConfusion h⟩, ⟨fun h => by omega, fun h => Bool.noConfusion h⟩, ⟨fun h => absurd h h3, fun h => Bool.noConfusion h⟩, ⟨fun _ => rfl, fun _ => h4⟩, trivial⟩
end
/-- What a method that may change the records does with them. -/
def Turns (s' : FS) (b : Nat) (φ : Nat → Prop) (w w' : World) : Prop := ∃ φ', ObA s' b φ' w' ∧ (∀ i, φ' i → φ i ∨ w.heap.size ≤ i) ∧ Kept w φ w'
section
variable {s : FS} {b : Nat} {φ : Nat → Prop} {w w' : World}
theorem view_get {l : List (List Msg)} {j : Nat} (hj : j < l.length) : (l.map viewA).getD j rec0 = viewA (l.getD j []) := by
  rw [List.getD_eq_getElem?_getD, List.getElem?_map, List.getD_eq_getElem?_getD, List.getElem?_eq_getElem hj]; rfl
theorem msg_wf {now : Int} {m : Msg} (h : MsgOk now m) (hn : now ≤ maxSim) : (Lit.int .i64 m.t).wf = true := by
  have := h.lo; have := h.hi
  unfold maxSim at hn
  exact wfI (by omega)
theorem rv_ok (hs : RsOk s) {r : RV} (hr : r ∈ s.l.map viewA) : RvOk r := by
  obtain ⟨x, hx, rfl⟩ := List.mem_map.1 hr
  obtain ⟨h1, h8⟩ := hs.some x hx
  refine ⟨(hs.msgs x hx _ (lastM_mem h1)).fits, by simpa [viewA] using h1, by simpa [viewA] using h8, fun y hy => ?_⟩
  obtain ⟨m, hm, rfl⟩ := List.mem_map.1 hy
  exact msg_wf (hs.msgs x hx m hm) hs.now.2
theorem st_wf (hs : RsOk s) : (Lit.int .i64 s.win).wf = true ∧ (Lit.int .i64 s.need).wf = true ∧ (Lit.int .i64 s.now).wf = true := by
  have := hs.win; have := hs.need; have := hs.now
  unfold maxSim at *
  exact ⟨wfI (by omega), wfI (by omega), wfI (by omega)⟩
theorem ObA.nilList {lb lc : Nat} {ms : List Nat} {ts : List (Nat × Nat)} (h : LayA s.win s.need s.now (s.l.map viewA) b lb lc ms ts w) (hφ : ∀ i, φ i ↔ i ∈ blksA (s.l.map viewA) b lb ms ts) :
    ∃ lb', LayA s.win s.need s.now (s.l.map viewA) b lb' lc ms ts w ∧ (∀ i, φ i ↔ i ∈ blksA (s.l.map viewA) b lb' ms ts) ∧ (s.l.map viewA = [] → lb' = w.heap.size) := by
  by_cases hl : s.l.map viewA = []
  · refine ⟨w.heap.size, ?_, fun i => ?_, fun _ => rfl⟩
    · rw [hl] at h ⊢; exact lay_anyList h _ _
    · rw [hφ i]; unfold blksA; rw [if_pos hl, if_pos hl]
  · exact ⟨lb, h, hφ, fun e => absurd e hl⟩
theorem Turns.of {s' : FS} (hs' : RsOk s') {l' : List RV} {lb : Nat} {ms : List Nat} {ts : List (Nat × Nat)} (hl' : s'.l.map viewA = l')
    (hφ : ∀ i, φ i ↔ i ∈ blksA (s.l.map viewA) b lb ms ts) (h : ∃ lb' lc' ms' ts', LayA s'.win s'.need s'.now l' b lb' lc' ms' ts' w' ∧ ∀ i ∈ blksA l' b lb' ms' ts', i ∈ blksA (s.l.map viewA) b lb ms ts ∨ w.heap.size ≤ i) (hk : Kept w (fun i => i ∈ blksA (s.l.map viewA) b lb ms ts) w') : Turns s' b φ w w' := by
  subst hl'
  obtain ⟨lb', lc', ms', ts', h1, h2⟩ := h
  refine ⟨fun i => i ∈ blksA (s'.l.map viewA) b lb' ms' ts', ⟨hs', lb', lc', ms', ts', h1, fun i => Iff.rfl⟩, fun i hi => ?_, ⟨hk.os, hk.tape, hk.output, hk.size, fun i hi hn => hk.block i hi fun hm => hn ((hφ i).2 hm)⟩⟩
  rcases h2 i hi with h | h
  · exact .inl ((hφ i).2 h)
  · exact .inr h
theorem Turns.same (h : ObA s b φ w) (hb : Below w.heap.size w w') : Turns s b φ w w' := by
  have hlt : ∀ i, φ i → i < w.heap.size := fun i hi => FrnOb_lt (q := 1) (vs := [code s]) ⟨s, rfl, h⟩ i hi
  obtain ⟨hs, lb, lc, ms, ts, h1, h2⟩ := h
  exact ⟨φ, ⟨hs, lb, lc, ms, ts, h1.keep fun i hi => hb.block i (h1.lt_of hi), h2⟩, fun i hi => .inl hi, ⟨hb.os, hb.tape, hb.output, hb.size, fun i hi _ => hb.block i hi⟩⟩
theorem hear_ok {d : List Int} {t : Int} (hz : bad s d t = 0) : hear s d t = { s with now := t, l := put d t s.l } := by unfold hear; rw [if_pos hz]
set_option maxHeartbeats 2000000 in
theorem hear_found (hs : RsOk s) {lb lc : Nat} {ms : List Nat} {ts : List (Nat × Nat)} (hlay : LayA s.win s.need s.now (s.l.map viewA) b lb lc ms ts w) (hφ : ∀ i, φ i ↔ i ∈ blksA (s.l.map viewA) b lb ms ts) (h0 : s.l.map viewA = [] → lb = w.heap.size) {d : List Int} {t : Int} (hd : fitsK ks11 d) (ht : (Lit.int .i64 t).wf = true) (hz : bad s d t = 0) {i : Nat} (hfi : Frm.find d s.l = some i) : Calls Tryd.prog 45 #[ptrV b, .agg (dsVals d).toArray, .int .i64 t] w fun e w' => e = .returned (.int .i64 0) ∧ Turns (hear s d t) b φ w w' := by
  obtain ⟨b1, b2, b3, b4⟩ := bad_zero hz
  have hw := st_wf hs
  have hs' := rsOk_hear hs hd t
  rw [hear_ok hz] at hs' ⊢
  have hlen : (s.l.map viewA).length = s.l.length := by simp
  have h5 := hs.five
  have mkP : ∀ (f : Option (Nat × Nat)) (tm : List Int), (∀ i k, f = some (i, k) → i < s.l.length ∧ tm = ((s.l.map viewA).getD i rec0).2 ∧ k = tm.length) → PackOk (s.l.map viewA) tm s.win s.need s.now s.l.length f := fun f tm hf => ⟨hlen, h5, fun r hr => rv_ok hs hr, hw, hf⟩
  have hd11 : d.length = 11 := fits_len hd
  obtain ⟨f1, f2, f3⟩ := find_some hfi
  have hr : s.l.getD i [] ∈ s.l := getD_mem f1
  obtain ⟨k1, k8⟩ := hs.some _ hr
  obtain ⟨tm, htm⟩ : ∃ tm, tm = (s.l.getD i []).map Msg.t := ⟨_, rfl⟩
  have hvi : (s.l.map viewA).getD i rec0 = viewA (s.l.getD i []) := view_get f1
  have hk : tm.length = (s.l.getD i []).length := by rw [htm]; simp
  have hP := mkP (some (i, (s.l.getD i []).length)) tm (fun i' k' he => by
    cases he
    exact ⟨f1, by rw [hvi, htm]; rfl, hk.symm⟩)
  have hi5 : i < 5 := by omega
  obtain ⟨ρ, hρ⟩ : ∃ ρ, ρ = envR (fun _ _ _ => 0) d t s.win s.need s.now (s.l.map viewA) ts tm := ⟨_, rfl⟩
  have og : ∀ j, j < 11 → (ofRec i j).ev ρ = d.getD j 0 := fun j hj => by
    have e7 : (recVar i 7).ev ρ = d.getD 7 0 ∧ (recVar i 8).ev ρ = d.getD 8 0 := by
      have := f2
      unfold org at this
      simp only [Prod.mk.injEq] at this
      rw [hρ, rec_d i hi5 7 (by decide), rec_d i hi5 8 (by decide), hvi]
      exact this
    unfold ofRec
    rw [beq_iff, beq_iff]
    by_cases h7 : j = 7
    · subst h7; exact e7.1
    · rw [decide_eq_false h7]
      by_cases h8 : j = 8
      · subst h8; exact e7.2
      · rw [decide_eq_false h8, hρ]; exact arg_ev j hj
  have hrun := chg_A (F := fun _ _ _ => 0) (sp := noSpec) (g := 45) (args := argsH (ofRec i)) (p := goodF (ofRec i) ++ notF (ofRec i) i) (e := .var 11) (ws := fun _ => (List.range s.l.length).map (foundW i (s.l.getD i []).length)) (v := fun _ => .int .i64 (.lit 0)) hP hlay h0 hd ht noSpec_ok
    (by rw [← hρ]; exact fsOk_app (by rw [hρ] at og ⊢; exact goodF_ok og b1 b2 b3 b4) (by rw [hρ] at og ⊢; exact notF_ok (by omega) (og 7 (by decide)) (og 8 (by decide)) fun j hj => by rw [view_get (by omega)]; exact f3 j hj))
    (by rw [← hρ]; exact ⟨by show 0 < _; omega, dsS_ok og hd, by rw [hρ]; exact ht, trivial⟩) (found_all h5 f1 k1 k8)
  rw [← hρ] at hrun
  have ea : SV.evs ρ (bmA s.l.length (some (i, (s.l.getD i []).length)) b lb lc ms ts) (argsH (ofRec i)) = [ptrV b, .agg (dsVals d).toArray, .int .i64 t] := by
    show [ptrV b, Value.agg (SV.evs _ _ (dsS (ofRec i))).toArray, Value.int .i64 ((E.var 11).ev ρ)] = _
    rw [dsS_ev og, hρ, v11_ev]
  rw [ea] at hrun
  refine hrun.mono fun x w' ⟨o, ho, hx, hl, hk'⟩ => ⟨hx, Turns.of hs' ?_ hφ (by rw [hρ, v11_ev] at hl; exact hl) hk'⟩
  show (put d t s.l).map viewA = ((List.range s.l.length).map (foundW i (s.l.getD i []).length)).map (Wr.view (envR (fun _ _ _ => 0) d t s.win s.need s.now (s.l.map viewA) ts tm) (s.l.map viewA))
  unfold put
  rw [hfi]
  apply List.ext_getElem?
  intro j
  by_cases hj : j < s.l.length
  · simp only [List.getElem?_map, List.getElem?_range hj, Option.map_some, List.getElem?_set]
    by_cases hji : i = j
    · subst hji
      rw [if_pos rfl, if_pos hj, Option.map_some]
      congr 1
      unfold foundW
      rw [beq_iff, decide_eq_true rfl, cond_true]
      have hd' : ((List.range 11).map fun q => (ofRec i q).ev (envR (fun _ _ _ => 0) d t s.win s.need s.now (s.l.map viewA) ts tm)) = d := by
        have : ((List.range 11).map fun q => (ofRec i q).ev (envR (fun _ _ _ => 0) d t s.win s.need s.now (s.l.map viewA) ts tm)) = (List.range 11).map fun q => d.getD q 0 := List.map_congr_left fun q hq => by rw [← hρ]; exact og q (List.mem_range.1 hq)
        rw [this, range11_self hd11]
      have hts : E.evs (envR (fun _ _ _ => 0) d t s.win s.need s.now (s.l.map viewA) ts tm) ((List.range (s.l.getD i []).length).map tmVar ++ [.var 11]) = tm ++ [t] := by
        rw [evs_app]
        congr 1
        have : ∀ q : List Nat, E.evs (envR (fun _ _ _ => 0) d t s.win s.need s.now (s.l.map viewA) ts tm) (q.map tmVar) = q.map fun j => tm.getD j 0 := fun q => by
          induction q with
          | nil => rfl
          | cons x q ih => simp only [List.map_cons, E.evs, ih, tm_ev]
        rw [this, ← hk]
        apply List.ext_getElem?
        intro q
        by_cases hq : q < tm.length
        · simp [hq]
        · simp [hq]
      have hdrop : ∀ (k : Nat) (es : List E), E.evs (envR (fun _ _ _ => 0) d t s.win s.need s.now (s.l.map viewA) ts tm) (dropIf k es) = if 8 < k then (E.evs (envR (fun _ _ _ => 0) d t s.win s.need s.now (s.l.map viewA) ts tm) es).tail else E.evs (envR (fun _ _ _ => 0) d t s.win s.need s.now (s.l.map viewA) ts tm) es := fun k es => by
        unfold dropIf
        rw [blt_iff]
        by_cases hk8 : 8 < k
        · rw [decide_eq_true hk8, if_pos hk8]; cases es <;> rfl
        · rw [decide_eq_false hk8, if_neg hk8]; rfl
      show viewA (keep8 (s.l.getD i [] ++ [⟨d, t⟩])) = ((List.range 11).map fun q => (ofRec i q).ev _, E.evs _ (dropIf ((s.l.getD i []).length + 1) _))
      rw [hd', hdrop, hts]
      unfold viewA
      rw [lastM_keep8]
      congr 1
      unfold keep8
      simp only [List.length_append, List.length_singleton]
      split
      · rw [List.map_tail, List.map_append, htm]; rfl
      · rw [List.map_append, htm]; rfl
    · rw [if_neg hji]
      unfold foundW
      rw [beq_iff, decide_eq_false (fun e => hji e.symm), cond_false, old_view hP hj, view_get hj]
      simp [List.getElem?_eq_getElem hj, List.getD_eq_getElem?_getD]
  · rw [List.getElem?_eq_none (by simp; omega), List.getElem?_eq_none (by simp; omega)]
set_option maxHeartbeats 2000000 in
theorem hear_fresh (hs : RsOk s) {lb lc : Nat} {ms : List Nat} {ts : List (Nat × Nat)} (hlay : LayA s.win s.need s.now (s.l.map viewA) b lb lc ms ts w) (hφ : ∀ i, φ i ↔ i ∈ blksA (s.l.map viewA) b lb ms ts) (h0 : s.l.map viewA = [] → lb = w.heap.size) {d : List Int} {t : Int} (hd : fitsK ks11 d) (ht : (Lit.int .i64 t).wf = true) (hz : bad s d t = 0) (hfi : Frm.find d s.l = none) (hn5 : s.l.length < 5) : Calls Tryd.prog 45 #[ptrV b, .agg (dsVals d).toArray, .int .i64 t] w fun e w' => e = .returned (.int .i64 0) ∧ Turns (hear s d t) b φ w w' := by
  obtain ⟨b1, b2, b3, b4⟩ := bad_zero hz
  have hw := st_wf hs
  have hs' := rsOk_hear hs hd t
  rw [hear_ok hz] at hs' ⊢
  have hlen : (s.l.map viewA).length = s.l.length := by simp
  have h5 := hs.five
  have mkP : ∀ (f : Option (Nat × Nat)) (tm : List Int), (∀ i k, f = some (i, k) → i < s.l.length ∧ tm = ((s.l.map viewA).getD i rec0).2 ∧ k = tm.length) → PackOk (s.l.map viewA) tm s.win s.need s.now s.l.length f := fun f tm hf => ⟨hlen, h5, fun r hr => rv_ok hs hr, hw, hf⟩
  have hd11 : d.length = 11 := fits_len hd
  have hne := find_none hfi
  have hP := mkP none [] (fun i k he => by cases he)
  have hnot : ∀ j, j < s.l.length → org ((s.l.map viewA).getD j rec0).1 ≠ org d := fun j hj => by rw [view_get hj]; exact hne _ (getD_mem hj)
  have ea : SV.evs (envR (fun _ _ _ => 0) d t s.win s.need s.now (s.l.map viewA) ts []) (bmA s.l.length none b lb lc ms ts) (argsH .var) = [ptrV b, .agg (dsVals d).toArray, .int .i64 t] := by
    show [ptrV b, Value.agg (SV.evs _ _ (dsS .var)).toArray, Value.int .i64 t] = _
    rw [dsS_ev fun j hj => arg_ev j hj]
  have hargs : ∀ m, 0 < m → SV.oks (envR (fun _ _ _ => 0) d t s.win s.need s.now (s.l.map viewA) ts []) m (argsH .var) := fun m hm => ⟨hm, dsS_ok (fun j hj => arg_ev j hj) hd, ht, trivial⟩
  have hnew : Wr.view (envR (fun _ _ _ => 0) d t s.win s.need s.now (s.l.map viewA) ts []) (s.l.map viewA) newW = viewA [⟨d, t⟩] := by
    show ((List.range 11).map fun q => (E.var q).ev _, [t]) = (d, [t])
    rw [arg_view hd11]
  have holds : ∀ q : List Nat, (∀ j ∈ q, j < s.l.length) → (q.map oldW).map (Wr.view (envR (fun _ _ _ => 0) d t s.win s.need s.now (s.l.map viewA) ts []) (s.l.map viewA)) = q.map fun j => viewA (s.l.getD j []) := fun q hq => by
    rw [List.map_map]
    exact List.map_congr_left fun j hj => by rw [Function.comp, old_view hP (hq j hj), view_get (hq j hj)]
  have hrange : (List.range s.l.length).map (fun j => viewA (s.l.getD j [])) = s.l.map viewA := by
    apply List.ext_getElem?
    intro j
    by_cases hj : j < s.l.length
    · simp [hj, List.getElem?_range hj]
    · simp [hj]
  have hrun := chg_A (F := fun _ _ _ => 0) (sp := noSpec) (g := 45) (args := argsH .var) (p := goodF .var ++ notF .var s.l.length) (e := .var 11) (ws := fun _ => (List.range s.l.length).map oldW ++ [newW]) (v := fun _ => .int .i64 (.lit 0)) hP hlay h0 hd ht noSpec_ok
    (fsOk_app (goodF_ok (fun j hj => arg_ev j hj) b1 b2 b3 b4) (notF_ok h5 (arg_ev 7 (by decide)) (arg_ev 8 (by decide)) hnot)) (hargs _ (by omega)) (fresh_all hn5)
  rw [ea] at hrun
  refine hrun.mono fun x w' ⟨o, ho, hx, hl, hk'⟩ => ⟨hx, Turns.of hs' ?_ hφ hl hk'⟩
  show (put d t s.l).map viewA = _
  unfold put
  rw [hfi]
  simp only [if_neg (show ¬ s.l.length = 5 by omega), List.map_append]
  rw [holds _ (fun j hj => List.mem_range.1 hj), hrange]
  show _ = _ ++ [Wr.view _ _ newW]
  rw [hnew]; rfl
end
end Go.Proofs.YtfcpmapfhgibpaaDoor
namespace Go.Proofs.YtfcpmapfhgibpaaDoor
set_option maxRecDepth 100000
open Go Go.RowKit SX Frm Frn
set_option linter.unusedVariables false
set_option linter.unusedSimpArgs false
section
variable {s : FS} {b : Nat} {φ : Nat → Prop} {w w' : World}
set_option maxHeartbeats 2000000 in
theorem hear_drop (hs : RsOk s) {lb lc : Nat} {ms : List Nat} {ts : List (Nat × Nat)} (hlay : LayA s.win s.need s.now (s.l.map viewA) b lb lc ms ts w) (hφ : ∀ i, φ i ↔ i ∈ blksA (s.l.map viewA) b lb ms ts) (h0 : s.l.map viewA = [] → lb = w.heap.size) {d : List Int} {t : Int} (hd : fitsK ks11 d) (ht : (Lit.int .i64 t).wf = true) (hz : bad s d t = 0) (hfi : Frm.find d s.l = none) (hn5 : ¬ s.l.length < 5) : Calls Tryd.prog 45 #[ptrV b, .agg (dsVals d).toArray, .int .i64 t] w fun e w' => e = .returned (.int .i64 0) ∧ Turns (hear s d t) b φ w w' := by
  obtain ⟨b1, b2, b3, b4⟩ := bad_zero hz
  have hw := st_wf hs
  have hs' := rsOk_hear hs hd t
  rw [hear_ok hz] at hs' ⊢
  have hlen : (s.l.map viewA).length = s.l.length := by simp
  have h5 := hs.five
  have mkP : ∀ (f : Option (Nat × Nat)) (tm : List Int), (∀ i k, f = some (i, k) → i < s.l.length ∧ tm = ((s.l.map viewA).getD i rec0).2 ∧ k = tm.length) → PackOk (s.l.map viewA) tm s.win s.need s.now s.l.length f := fun f tm hf => ⟨hlen, h5, fun r hr => rv_ok hs hr, hw, hf⟩
  have hd11 : d.length = 11 := fits_len hd
  have hne := find_none hfi
  have hP := mkP none [] (fun i k he => by cases he)
  have hnot : ∀ j, j < s.l.length → org ((s.l.map viewA).getD j rec0).1 ≠ org d := fun j hj => by rw [view_get hj]; exact hne _ (getD_mem hj)
  have ea : SV.evs (envR (fun _ _ _ => 0) d t s.win s.need s.now (s.l.map viewA) ts []) (bmA s.l.length none b lb lc ms ts) (argsH .var) = [ptrV b, .agg (dsVals d).toArray, .int .i64 t] := by
    show [ptrV b, Value.agg (SV.evs _ _ (dsS .var)).toArray, Value.int .i64 t] = _
    rw [dsS_ev fun j hj => arg_ev j hj]
  have hargs : ∀ m, 0 < m → SV.oks (envR (fun _ _ _ => 0) d t s.win s.need s.now (s.l.map viewA) ts []) m (argsH .var) := fun m hm => ⟨hm, dsS_ok (fun j hj => arg_ev j hj) hd, ht, trivial⟩
  have hnew : Wr.view (envR (fun _ _ _ => 0) d t s.win s.need s.now (s.l.map viewA) ts []) (s.l.map viewA) newW = viewA [⟨d, t⟩] := by
    show ((List.range 11).map fun q => (E.var q).ev _, [t]) = (d, [t])
    rw [arg_view hd11]
  have holds : ∀ q : List Nat, (∀ j ∈ q, j < s.l.length) → (q.map oldW).map (Wr.view (envR (fun _ _ _ => 0) d t s.win s.need s.now (s.l.map viewA) ts []) (s.l.map viewA)) = q.map fun j => viewA (s.l.getD j []) := fun q hq => by
    rw [List.map_map]
    exact List.map_congr_left fun j hj => by rw [Function.comp, old_view hP (hq j hj), view_get (hq j hj)]
  have hrange : (List.range s.l.length).map (fun j => viewA (s.l.getD j [])) = s.l.map viewA := by
    apply List.ext_getElem?
    intro j
    by_cases hj : j < s.l.length
    · simp [hj, List.getElem?_range hj]
    · simp [hj]
  have hn : s.l.length = 5 := by omega
  have hne' : s.l ≠ [] := fun e => by rw [e] at hn; cases hn
  obtain ⟨o1, o2, o3⟩ := old_spec hne'
  obtain ⟨j0, hj0⟩ : ∃ j0, j0 = old s.l := ⟨_, rfl⟩
  rw [← hj0] at o1 o2 o3
  have hlate : ∀ j, j < 5 → (lateE j).ev (envR (fun _ _ _ => 0) d t s.win s.need s.now (s.l.map viewA) ts []) = (lastM (s.l.getD j [])).t := fun j hj => by
    have hjl : j < s.l.length := by omega
    obtain ⟨r1, r8⟩ := hs.some _ (getD_mem (d := []) hjl)
    have hlast := msg_wf (hs.msgs _ (getD_mem (d := []) hjl) _ (lastM_mem r1)) hs.now.2
    have e2 : (E.bin .sub .i64 (recVar j 11) (.lit 1)).ev (envR (fun _ _ _ => 0) d t s.win s.need s.now (s.l.map viewA) ts []) = (((s.l.getD j []).length - 1 : Nat) : Int) := by
      show IntKind.i64.wrap ((recVar j 11).ev _ - 1) = _
      rw [rec_len j hj, view_get hjl]
      have : (viewA (s.l.getD j [])).2.length = (s.l.getD j []).length := by simp [viewA]
      rw [this, wrap_fit ((wf_iff .i64 _).1 (wfI (by omega)))]
      omega
    show IntKind.i64.wrap (arrA (s.l.map viewA) j 3 _) = _
    rw [e2]
    unfold arrA
    rw [view_get hjl, Int.toNat_natCast]
    have e3 : (viewA (s.l.getD j [])).2.getD ((s.l.getD j []).length - 1) 0 = (lastM (s.l.getD j [])).t := by
      generalize s.l.getD j [] = r at r1 ⊢
      have hi : r.length - 1 < r.length := by omega
      show (r.map Msg.t).getD (r.length - 1) 0 = _
      rw [List.getD_eq_getElem?_getD, List.getElem?_map, List.getElem?_eq_getElem hi]
      show (r[r.length - 1]).t = _
      unfold lastM
      cases r with
      | nil => simp at r1
      | cons x r => simp [List.getLastD, List.getLast_eq_getElem]
    rw [e3]
    exact wrap_fit ((wf_iff .i64 _).1 hlast)
  have hF : SX.FsOk (envR (fun _ _ _ => 0) d t s.win s.need s.now (s.l.map viewA) ts []) (oldF j0) := fun p hp => by
    obtain ⟨i, hi, hp⟩ := List.mem_flatMap.1 hp
    have hi5 : i < 5 := List.mem_range.1 hi
    rw [beq_iff, blt_iff] at hp
    by_cases hij : i = j0
    · rw [decide_eq_true hij] at hp; cases hp
    · rw [decide_eq_false hij, cond_false] at hp
      by_cases hlt : i < j0
      · rw [decide_eq_true hlt, cond_true] at hp
        obtain rfl := List.mem_singleton.1 hp
        show (lt0 (lateE j0) (lateE i)).ev _ ≠ 0 ↔ _
        rw [lt0_ev, hlate j0 (by omega), hlate i hi5]
        exact ⟨fun _ => rfl, fun _ => o2 i hlt⟩
      · rw [decide_eq_false hlt, cond_false] at hp
        obtain rfl := List.mem_singleton.1 hp
        show (lt0 (lateE i) (lateE j0)).ev _ ≠ 0 ↔ _
        rw [lt0_ev, hlate j0 (by omega), hlate i hi5]
        exact ⟨fun e => absurd e (o3 i (by omega) (by omega)), fun e => Bool.noConfusion e⟩
  have hP5 : PackOk (s.l.map viewA) [] s.win s.need s.now 5 none := by rw [← hn]; exact hP
  have hB : (runG noSpec 45 (argsH .var) 5 none (goodF .var ++ (notF .var 5 ++ oldF j0))).all (endA 5 none (.var 11) (fun _ => ((List.range 5).eraseIdx j0).map oldW ++ [newW]) (fun _ => .int .i64 (.lit 0))) = true := by
    have := drop_all (j := j0) (by omega)
    unfold dropB at this
    exact this
  have hrun := chg_A (F := fun _ _ _ => 0) (sp := noSpec) (g := 45) (args := argsH .var) (p := goodF .var ++ (notF .var 5 ++ oldF j0)) (e := .var 11) (ws := fun _ => ((List.range 5).eraseIdx j0).map oldW ++ [newW]) (v := fun _ => .int .i64 (.lit 0)) hP5 hlay h0 hd ht noSpec_ok
    (fsOk_app (goodF_ok (fun j hj => arg_ev j hj) b1 b2 b3 b4) (fsOk_app (notF_ok (by decide) (arg_ev 7 (by decide)) (arg_ev 8 (by decide)) (fun j hj => hnot j (by omega))) hF)) (hargs _ (by omega)) hB
  rw [hn] at ea
  rw [ea] at hrun
  refine hrun.mono fun x w' ⟨o, ho, hx, hl, hk'⟩ => ⟨hx, Turns.of hs' ?_ hφ hl hk'⟩
  show (put d t s.l).map viewA = _
  unfold put
  rw [hfi]
  simp only [if_pos hn, List.map_append]
  rw [holds _ (fun j hj => by have := List.mem_range.1 (List.mem_of_mem_eraseIdx hj); omega)]
  have he : ((List.range 5).eraseIdx j0).map (fun j => viewA (s.l.getD j [])) = (s.l.eraseIdx (old s.l)).map viewA := by
    have hmap : ∀ {α γ : Type} (g : α → γ) (q : List α) (k : Nat), (q.eraseIdx k).map g = (q.map g).eraseIdx k := fun g q => by
      induction q with
      | nil => intro k; rfl
      | cons x q ih => intro k; cases k with
        | zero => rfl
        | succ k => simp [ih]
    rw [hmap, hmap, ← hj0, ← hn, hrange]
  rw [he]
  show _ = _ ++ [Wr.view _ _ newW]
  rw [hnew]; rfl
/-- Hear. -/
theorem hear_any (h : ObA s b φ w) {d : List Int} {t : Int} (hd : fitsK ks11 d) (ht : (Lit.int .i64 t).wf = true) :
    Calls Tryd.prog 45 #[ptrV b, .agg (dsVals d).toArray, .int .i64 t] w fun e w' => e = .returned (.int .i64 (bad s d t)) ∧ Turns (hear s d t) b φ w w' := by
  have hob := h
  obtain ⟨hs, lb0, lc, ms, ts, hlay0, hφ0⟩ := h
  obtain ⟨lb, hlay, hφ, h0⟩ := ObA.nilList hlay0 hφ0
  have hw := st_wf hs
  by_cases hz : bad s d t = 0
  · rw [hz]
    cases hfi : Frm.find d s.l with
    | some i => exact hear_found hs hlay hφ h0 hd ht hz hfi
    | none =>
      by_cases hn5 : s.l.length < 5
      · exact hear_fresh hs hlay hφ h0 hd ht hz hfi hn5
      · exact hear_drop hs hlay hφ h0 hd ht hz hfi hn5
  · have e1 : hear s d t = s := by unfold hear; rw [if_neg hz]
    rw [e1]
    have hh := hlay.head
    have fin : ∀ j, SX.FsOk (envR (fun _ _ _ => 0) d t s.win s.need s.now [] [] []) (errF j) → (∀ lv, errB j (bad s d t) lv = true) → Calls Tryd.prog 45 #[ptrV b, .agg (dsVals d).toArray, .int .i64 t] w fun e w' => e = .returned (.int .i64 (bad s d t)) ∧ Turns s b φ w w' := fun j hF hB =>
      (hear_err hh hw hd ht hF (hB _)).mono fun x w' ⟨h1, h2⟩ => ⟨h1, Turns.same hob h2⟩
    have a : ∀ j, j < 11 → (E.var j).ev (envR (fun _ _ _ => 0) d t s.win s.need s.now [] [] []) = d.getD j 0 := fun j hj => arg_ev j hj
    have e11 : (E.var 11).ev (envR (fun _ _ _ => 0) d t s.win s.need s.now [] [] []) = t := rfl
    have e14 : (E.var 14).ev (envR (fun _ _ _ => 0) d t s.win s.need s.now [] [] []) = s.now := rfl
    have no : ∀ {p : Prop}, ¬ p → (p ↔ false = true) := fun hp => ⟨fun h => absurd h hp, fun h => Bool.noConfusion h⟩
    have yes : ∀ {p : Prop}, p → (p ↔ true = true) := fun hp => ⟨fun _ => rfl, fun _ => hp⟩
    by_cases c0 : t < 0
    · have hb : bad s d t = 3 := by unfold bad; rw [if_pos (.inl c0)]
      refine fin 0 ?_ (by rw [hb]; exact err_0)
      rw [errF, fsOk_cons, fsOk_nil, lt0_ev, e11, lit_ev]
      exact ⟨yes c0, trivial⟩
    · by_cases c1 : maxSim < t
      · have hb : bad s d t = 3 := by unfold bad; rw [if_pos (.inr c1)]
        refine fin 1 ?_ (by rw [hb]; exact err_1)
        unfold maxSim at c1
        rw [errF, fsOk_cons, fsOk_cons, fsOk_nil, lt0_ev, lt0_ev, e11, lit_ev, lit_ev]
        exact ⟨no c0, yes c1, trivial⟩
      · by_cases c2 : t < s.now
        · have hb : bad s d t = 12 := by unfold bad; rw [if_neg (by omega), if_pos c2]
          refine fin 2 ?_ (by rw [hb]; exact err_2)
          unfold maxSim at c1
          rw [errF, fsOk_cons, fsOk_cons, fsOk_cons, fsOk_nil, lt0_ev, lt0_ev, lt0_ev, e11, e14, lit_ev, lit_ev]
          exact ⟨no c0, no c1, yes c2, trivial⟩
        · by_cases c3 : d.getD 7 0 = d.getD 9 0
          · have hb : bad s d t = 18 := by unfold bad; rw [if_neg (by omega), if_neg c2, if_pos c3]
            refine fin 3 ?_ (by rw [hb]; exact err_3)
            unfold maxSim at c1
            rw [errF, fsOk_cons, fsOk_cons, fsOk_cons, fsOk_cons, fsOk_nil, lt0_ev, lt0_ev, lt0_ev, eqk_ev, a 7 (by decide), a 9 (by decide), e11, e14, lit_ev, lit_ev]
            exact ⟨no c0, no c1, no c2, yes c3, trivial⟩
          · by_cases c4 : d.getD 6 0 < 32
            · exact absurd (by unfold bad; rw [if_neg (by omega), if_neg c2, if_neg c3, if_neg (by omega)]) hz
            · have hb : bad s d t = 3 := by unfold bad; rw [if_neg (by omega), if_neg c2, if_neg c3, if_pos (by omega)]
              refine fin 4 ?_ (by rw [hb]; exact err_4)
              unfold maxSim at c1
              show SX.FsOk _ errF4
              rw [errF4, fsOk_cons, fsOk_cons, fsOk_cons, fsOk_cons, fsOk_cons, fsOk_nil, lt0_ev, lt0_ev, lt0_ev, lt0_ev, eqk_ev, a 7 (by decide), a 9 (by decide), a 6 (by decide), e11, e14, lit_ev, lit_ev, lit_ev]
              exact ⟨no c0, no c1, no c2, no c3, no c4, trivial⟩
end
end Go.Proofs.YtfcpmapfhgibpaaDoor
namespace Go.Proofs.YtfcpmapfhgibpaaDoor
set_option maxRecDepth 100000
open Go Go.RowKit SX Frm Frn
set_option linter.unusedVariables false
set_option linter.unusedSimpArgs false

theorem below_drawn {B : Nat} {a w : World} (h : Below B a w) (n : Nat) : Below B a (w.drewN n) := h.trans ⟨rfl, rfl, rfl, Nat.le_refl _, fun _ _ => rfl⟩
theorem recent_any {b m tb cap o : Nat} {win now a : Int} {ts : List Int} {w : World} (h0 : w.cell? ⟨b, 0, none⟩ = some (.int .i64 win)) (h2 : w.cell? ⟨b, 2, none⟩ = some (.int .i64 now)) (hm : w.cell? ⟨m, 13, none⟩ = some (.slice (some ⟨tb, o, none⟩) ts.length cap)) (ht : ∀ i : Nat, i < ts.length → w.cell? ⟨tb, o + i, none⟩ = some (.int .i64 (ts.getD i 0)))
    (hlen : ts.length ≤ 8) (hw : 1 ≤ win ∧ win ≤ maxSim) (hn : 0 ≤ now ∧ now ≤ maxSim) (ha : (Lit.int .i64 a).wf = true) :
    Calls Tryd.prog 55 #[.pointer (some ⟨b, 0, none⟩), .pointer (some ⟨m, 0, none⟩), .int .i64 a] w fun e w' => e = .returned (.int .i64 ((ts.filter fun x => decide (max a now - win < x)).length : Int)) ∧ Below w.heap.size w w' := by
  go_enter Tryd.func55, Tryd.ntmps55
  go_wp2_with fail
  go_loopw [7, 15] (fun v i wr => ∃ k : Nat, k ≤ ts.length ∧ i = .int .i64 k ∧ v = .int .i64 (((ts.take k).filter fun x => decide (max a now - win < x)).length : Int) ∧ Below w.heap.size w wr) (fun _ i _ => ts.length - (intOf i).toNat)
  case atStart => exact ⟨0, Nat.zero_le _, rfl, by simp, Below.refl _ _⟩
  case round =>
    obtain ⟨k, hk, rfl, rfl, hb⟩ := hrel
    have hmx : IntKind.i64.wrap ((if a < now then now else a) - win) = max a now - win := by
      have ha' := (wf_iff .i64 a).1 ha
      have i1 : IntKind.i64.min = -9223372036854775808 := by decide
      have i2 : IntKind.i64.max = 9223372036854775807 := by decide
      rw [i1, i2] at ha'
      unfold maxSim at *
      have e : (if a < now then now else a) = max a now := by rw [Int.max_def]; split <;> split <;> omega
      rw [e]
      exact wrap_fit ⟨by rw [i1]; omega, by rw [i2]; omega⟩
    by_cases hlt : k < ts.length
    · have hbl : ∀ p : Addr, (hp : p.block < w.heap.size) → wr.cell? p = w.cell? p := fun p hp => hb.cell hp
      have c0 : wr.cell? ⟨b, 0, none⟩ = some (.int .i64 win) := (hbl ⟨b, 0, none⟩ (block_lt_of_cell h0)).trans h0
      have c2 : wr.cell? ⟨b, 2, none⟩ = some (.int .i64 now) := (hbl ⟨b, 2, none⟩ (block_lt_of_cell h2)).trans h2
      have hg : ts.getD k 0 = ts[k] := by simp [hlt]
      have ct : wr.cell? ⟨tb, o + k, none⟩ = some (.int .i64 ts[k]) := by rw [← hg]; exact (hbl ⟨tb, o + k, none⟩ (block_lt_of_cell (ht k hlt))).trans (ht k hlt)
      have hstep : ((ts.take (k + 1)).filter fun x => decide (max a now - win < x)).length = ((ts.take k).filter fun x => decide (max a now - win < x)).length + if max a now - win < ts[k] then 1 else 0 := by
        rw [List.take_succ_eq_append_getElem hlt, List.filter_append, List.length_append]
        congr 1
        by_cases hc : max a now - win < ts[k] <;> simp [hc]
      have hle : ((ts.take k).filter fun x => decide (max a now - win < x)).length ≤ 8 := Nat.le_trans (List.length_filter_le _ _) (by rw [List.length_take]; omega)
      obtain ⟨q, hq⟩ : ∃ q, q = ((ts.take k).filter fun x => decide (max a now - win < x)).length := ⟨_, rfl⟩
      rw [← hq] at hle hstep ⊢
      have HB := Lib.hid hb
      have HS := Lib.hid hstep
      clear h0 h2 hm ht hstep hq hb hbl hg
      by_cases hc : max a now - win < ts[k]
      · go_wp2_with fail
        go_quiet (fail)
        go_wp2
        go_roundw
        case rel => exact ⟨k + 1, by omega, by go_num, by rw [HS.out, if_pos hc]; go_num, below_drawn HB.out _⟩
        case measure => simp [intOf]; omega
      · go_wp2_with fail
        go_quiet (fail)
        go_wp2
        go_roundw
        case rel => exact ⟨k + 1, by omega, by go_num, by rw [HS.out, if_neg (by omega), Nat.add_zero], below_drawn HB.out _⟩
        case measure => simp [intOf]; omega
    · have hk' : k = ts.length := by omega
      subst hk'
      rw [List.take_length]
      go_wp2
      go_ret
      exact ⟨rfl, hb⟩

/-! ### recent as a name -/
def recE (i : Nat) (a : E) : E := .app 30 0 [litN i, a]
def newer (a now win : Int) (ts : List Int) : Nat := (ts.filter fun x => decide (max a now - win < x)).length
def FR (l : List RV) (now win : Int) : Nat → Nat → List Int → Int := fun f _ ns => if f = 30 then (newer (ns.tail.headD 0) now win (l.getD (ns.headD 0).toNat rec0).2 : Int) else 0
def cellFit (hp : Hp) (fs : Fs) (k j : Nat) (want : SV) : Bool :=
  match cellsAt hp k with
  | some c => match c[j]? with
    | some s => SV.fit fs (fun i => .var i) id hp.n want s
    | none => false
  | none => false
def isArrB (hp : Hp) (k i : Nat) : Bool :=
  match hp.at k with
  | some ⟨_, .arr a [.int .i64] (.var v)⟩ => Nat.beq a i && Nat.beq v (15 + 13 * i + 11)
  | _ => false
def spRecent (n : Nat) : Spc := fun f args hp fs =>
  match args with
  | [.ptr 0 0, .ptr k 0, .int .i64 a] => if f = 55 ∧ 2 ≤ k ∧ k < 2 + n ∧ cellFit hp fs 0 0 (.int .i64 (.var 12)) = true ∧ cellFit hp fs 0 2 (.int .i64 (.var 14)) = true ∧ cellFit hp fs k 13 (timesS n (k - 2) none) = true ∧ isArrB hp (2 + n + (k - 2)) (k - 2) = true then
      some ⟨.int .i64 (recE (k - 2) (canon fs a)), hp, fs⟩ else none
  | _ => none
section
variable {ρ : Env} {w0 w : World} {M : Nat → Prop} {β : Bm} {hp : Hp} {fs : Fs}
theorem cellFit_spec (hh : Heap ρ w0 M β hp w) (hf : SX.FsOk ρ fs) {k j : Nat} {want : SV} (h : cellFit hp fs k j want = true) : w.cell? ⟨(β k).1, j, none⟩ = some (want.ev ρ β) := by
  unfold cellFit at h
  split at h
  · rename_i c hc
    split at h
    · rename_i s hs
      obtain ⟨e, _⟩ := SV.fit_spec (β := β) (m := hp.n) hf _ _ h
      have := (cellsAt_spec hh.sees hc).1 j (s.ev ρ β) (by rw [SV.evs_map, List.getElem?_map, hs]; rfl)
      rw [this, e, envSub_var]
      rfl
    · cases h
  · cases h
end
section
variable {F : Nat → Nat → List Int → Int} {d : List Int} {t win need now : Int} {l : List RV} {ts : List (Nat × Nat)} {tm : List Int} {b lb lc n : Nat} {ms : List Nat} {w0 w : World} {M : Nat → Prop} {gl : Gl}
theorem spRecent_ok (hl : l.length = n) (h5 : n ≤ 5) (hr : ∀ r ∈ l, RvOk r) (hw : 1 ≤ win ∧ win ≤ maxSim) (hn : 0 ≤ now ∧ now ≤ maxSim) : SpecOk Tryd.prog (envR (FR l now win) d t win need now l ts tm) w0 M gl (spRecent n) := fun f args hp fs o h β w hh hfs ha hg => by
  unfold spRecent at h
  split at h
  · rename_i k a
    split at h
    · rename_i hc
      obtain ⟨rfl, c1, c2, c3, c4, c5, c6⟩ := hc
      obtain rfl := Option.some.inj h
      obtain ⟨i, rfl⟩ : ∃ i, k = 2 + i := ⟨k - 2, by omega⟩
      rw [show 2 + i - 2 = i by omega] at c5 c6 ⊢
      have hi5 : i < 5 := by omega
      have hil : i < l.length := by omega
      have hR := hr _ (getD_mem (d := rec0) hil)
      have e0 := cellFit_spec hh hfs c3
      have e2 := cellFit_spec hh hfs c4
      have e13 := cellFit_spec hh hfs c5
      have et : (timesS n i none).ev (envR (FR l now win) d t win need now l ts tm) β = .slice (some ⟨(β (2 + n + i)).1, (β (2 + n + i)).2 + 0, none⟩) (l.getD i rec0).2.length (ts.getD i (0, 0)).2 := by
        show Value.slice (some ⟨(β (2 + n + i)).1, (β (2 + n + i)).2 + 0, none⟩) ((recVar i 11).ev _).toNat ((recVar i 12).ev _).toNat = _
        rw [rec_len i hi5, rec_cap i hi5]; rfl
      rw [et] at e13
      have hv : (recE i (canon fs a)).ev (envR (FR l now win) d t win need now l ts tm) = (newer (a.ev (envR (FR l now win) d t win need now l ts tm)) now win (l.getD i rec0).2 : Int) := by
        show FR l now win 30 0 [Int.ofNat i, (canon fs a).ev _] = _
        rw [canon_ev hfs]; rfl
      have hlen8 : newer (a.ev (envR (FR l now win) d t win need now l ts tm)) now win (l.getD i rec0).2 ≤ 8 := Nat.le_trans (List.length_filter_le _ _) hR.le
      have hcells : ∀ j : Nat, j < (l.getD i rec0).2.length → w.cell? ⟨(β (2 + n + i)).1, (β (2 + n + i)).2 + 0 + j, none⟩ = some (.int .i64 ((l.getD i rec0).2.getD j 0)) := fun j hj => by
        unfold isArrB at c6
        split at c6
        · rename_i r a' v hat
          simp only [Bool.and_eq_true, beq_iff, decide_eq_true_eq] at c6
          obtain ⟨rfl, rfl⟩ := c6
          obtain ⟨q1, q2⟩ := hh.lies _ _ hat j 0 (.int .i64) (by
            show j < ((recVar a' 11).ev _).toNat
            rw [rec_len a' hi5]; exact hj) rfl
          have hwf := hR.wf _ (getD_mem (d := 0) hj)
          have e3 : (envR (FR l now win) d t win need now l ts tm).rd a' (Lk.code (.int .i64) 0) j = (l.getD a' rec0).2.getD j 0 := by
            show IntKind.i64.wrap ((l.getD a' rec0).2.getD (j : Int).toNat 0) = _
            rw [Int.toNat_natCast]
            exact wrap_fit ((wf_iff .i64 _).1 hwf)
          rw [e3] at q1
          rw [show (β (2 + n + a')).2 + 0 + j = (β (2 + n + a')).2 + (j * [Lk.int IntKind.i64].length + 0) by simp]
          exact q1
        · cases c6
      have hcall := recent_any (w := w) e0 e2 e13 hcells hR.le hw hn ha.2.2.1
      refine hcall.mono fun x w' ⟨hx, hb⟩ => ⟨β, Ext.refl _ _, Nat.le_refl _, Stay.refl _, hh.below hb, hfs, ?_, ?_⟩
      · show (Lit.int .i64 ((recE i (canon fs a)).ev _)).wf = true
        rw [hv]
        exact wfI (by omega)
      · rw [hx]
        show _ = Ending.returned (.int .i64 ((recE i (canon fs a)).ev _))
        rw [hv]; rfl
    · cases h
  · cases h
end
end Go.Proofs.YtfcpmapfhgibpaaDoor
