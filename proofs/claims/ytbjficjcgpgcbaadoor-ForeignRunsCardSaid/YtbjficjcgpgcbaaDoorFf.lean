/- Records of package foreign: what Hear does, all told. -/
import Derived.Test.YtbjficjcgpgcbaaDoorFe
namespace Go.Proofs.YtbjficjcgpgcbaaDoor
open Go Go.RowKit SX Frm Frn
set_option linter.unusedVariables false
set_option linter.unusedSimpArgs false
section
variable {s : FS} {b : Nat} {φ : Nat → Prop} {w w' : World}
set_option maxHeartbeats 2000000 in
theorem hear_drop (hs : RsOk s) {lb lc : Nat} {ms : List Nat} {ts : List (Nat × Nat)} (hlay : LayA s.win s.need s.now (s.l.map viewA) b lb lc ms ts w) (hφ : ∀ i, φ i ↔ i ∈ blksA (s.l.map viewA) b lb ms ts) (h0 : s.l.map viewA = [] → lb = w.heap.size) {d : List Int} {t : Int} (hd : fitsK ks11 d) (ht : (Lit.int .i64 t).wf = true) (hz : bad s d t = 0) (hfi : Frm.find d s.l = none) (hn5 : ¬ s.l.length < 5) : Calls Tryd.prog 13 #[ptrV b, .agg (dsVals d).toArray, .int .i64 t] w fun e w' => e = .returned (.int .i64 0) ∧ Turns (hear s d t) b φ w w' := by
  obtain ⟨b1, b2, b3, b4⟩ := bad_zero hz
  have hw := st_wf hs
  have hs' := rsOk_hear hs hd t
  rw [hear_ok hz] at hs' ⊢
  have hlen : (s.l.map viewA).length = s.l.length := by simp
  have h5 := hs.five
  have mkP : ∀ (f : Option (Nat × Nat)) (tm : List Int), (∀ i k, f = some (i, k) → i < s.l.length ∧ tm = ((s.l.map viewA).getD i rec0).2 ∧ k = tm.length) → PackOk (s.l.map viewA) tm s.win s.need s.now s.l.length f := fun f tm hf => ⟨hlen, h5, fun r hr => rv_ok hs hr, hw, hf⟩
  have hd11 : d.length = 11 := fits_len hd
  have hne := find_none hfi
  have hP := mkP none [] (fun i k he => by cases he)
  have hnot : ∀ j, j < s.l.length → org ((s.l.map viewA).getD j rec0).1 ≠ org d := fun j hj => by rw [view_get hj]; exact hne _ (getD_mem hj)
  have ea : SV.evs (envR (fun _ _ _ => 0) d t s.win s.need s.now (s.l.map viewA) ts []) (bmA s.l.length none b lb lc ms ts) (argsH .var) = [ptrV b, .agg (dsVals d).toArray, .int .i64 t] := by
    show [ptrV b, Value.agg (SV.evs _ _ (dsS .var)).toArray, Value.int .i64 t] = _
    rw [dsS_ev fun j hj => arg_ev j hj]
  have hargs : ∀ m, 0 < m → SV.oks (envR (fun _ _ _ => 0) d t s.win s.need s.now (s.l.map viewA) ts []) m (argsH .var) := fun m hm => ⟨hm, dsS_ok (fun j hj => arg_ev j hj) hd, ht, trivial⟩
  have hnew : Wr.view (envR (fun _ _ _ => 0) d t s.win s.need s.now (s.l.map viewA) ts []) (s.l.map viewA) newW = viewA [⟨d, t⟩] := by
    show ((List.range 11).map fun q => (E.var q).ev _, [t]) = (d, [t])
    rw [arg_view hd11]
  have holds : ∀ q : List Nat, (∀ j ∈ q, j < s.l.length) → (q.map oldW).map (Wr.view (envR (fun _ _ _ => 0) d t s.win s.need s.now (s.l.map viewA) ts []) (s.l.map viewA)) = q.map fun j => viewA (s.l.getD j []) := fun q hq => by
    rw [List.map_map]
    exact List.map_congr_left fun j hj => by rw [Function.comp, old_view hP (hq j hj), view_get (hq j hj)]
  have hrange : (List.range s.l.length).map (fun j => viewA (s.l.getD j [])) = s.l.map viewA := by
    apply List.ext_getElem?
    intro j
    by_cases hj : j < s.l.length
    · simp [hj, List.getElem?_range hj]
    · simp [hj]
  have hn : s.l.length = 5 := by omega
  have hne' : s.l ≠ [] := fun e => by rw [e] at hn; cases hn
  obtain ⟨o1, o2, o3⟩ := old_spec hne'
  obtain ⟨j0, hj0⟩ : ∃ j0, j0 = old s.l := ⟨_, rfl⟩
  rw [← hj0] at o1 o2 o3
  have hlate : ∀ j, j < 5 → (lateE j).ev (envR (fun _ _ _ => 0) d t s.win s.need s.now (s.l.map viewA) ts []) = (lastM (s.l.getD j [])).t := fun j hj => by
    have hjl : j < s.l.length := by omega
    obtain ⟨r1, r8⟩ := hs.some _ (getD_mem (d := []) hjl)
    have hlast := msg_wf (hs.msgs _ (getD_mem (d := []) hjl) _ (lastM_mem r1)) hs.now.2
    have e2 : (E.bin .sub .i64 (recVar j 11) (.lit 1)).ev (envR (fun _ _ _ => 0) d t s.win s.need s.now (s.l.map viewA) ts []) = (((s.l.getD j []).length - 1 : Nat) : Int) := by
      show IntKind.i64.wrap ((recVar j 11).ev _ - 1) = _
      rw [rec_len j hj, view_get hjl]
      have : (viewA (s.l.getD j [])).2.length = (s.l.getD j []).length := by simp [viewA]
      rw [this, wrap_fit ((wf_iff .i64 _).1 (wfI (by omega)))]
      omega
    show IntKind.i64.wrap (arrA (s.l.map viewA) j 3 _) = _
    rw [e2]
    unfold arrA
    rw [view_get hjl, Int.toNat_natCast]
    have e3 : (viewA (s.l.getD j [])).2.getD ((s.l.getD j []).length - 1) 0 = (lastM (s.l.getD j [])).t := by
      generalize s.l.getD j [] = r at r1 ⊢
      have hi : r.length - 1 < r.length := by omega
      show (r.map Msg.t).getD (r.length - 1) 0 = _
      rw [List.getD_eq_getElem?_getD, List.getElem?_map, List.getElem?_eq_getElem hi]
      show (r[r.length - 1]).t = _
      unfold lastM
      cases r with
      | nil => simp at r1
      | cons x r => simp [List.getLastD, List.getLast_eq_getElem]
    rw [e3]
    exact wrap_fit ((wf_iff .i64 _).1 hlast)
  have hF : SX.FsOk (envR (fun _ _ _ => 0) d t s.win s.need s.now (s.l.map viewA) ts []) (oldF j0) := fun p hp => by
    obtain ⟨i, hi, hp⟩ := List.mem_flatMap.1 hp
    have hi5 : i < 5 := List.mem_range.1 hi
    rw [beq_iff, blt_iff] at hp
    by_cases hij : i = j0
    · rw [decide_eq_true hij] at hp; cases hp
    · rw [decide_eq_false hij, cond_false] at hp
      by_cases hlt : i < j0
      · rw [decide_eq_true hlt, cond_true] at hp
        obtain rfl := List.mem_singleton.1 hp
        show (lt0 (lateE j0) (lateE i)).ev _ ≠ 0 ↔ _
        rw [lt0_ev, hlate j0 (by omega), hlate i hi5]
        exact ⟨fun _ => rfl, fun _ => o2 i hlt⟩
      · rw [decide_eq_false hlt, cond_false] at hp
        obtain rfl := List.mem_singleton.1 hp
        show (lt0 (lateE i) (lateE j0)).ev _ ≠ 0 ↔ _
        rw [lt0_ev, hlate j0 (by omega), hlate i hi5]
        exact ⟨fun e => absurd e (o3 i (by omega) (by omega)), fun e => Bool.noConfusion e⟩
  have hP5 : PackOk (s.l.map viewA) [] s.win s.need s.now 5 none := by rw [← hn]; exact hP
  have hB : (runG noSpec 13 (argsH .var) 5 none (goodF .var ++ (notF .var 5 ++ oldF j0))).all (endA 5 none (.var 11) (fun _ => ((List.range 5).eraseIdx j0).map oldW ++ [newW]) (fun _ => .int .i64 (.lit 0))) = true := by
    have := drop_all (j := j0) (by omega)
    unfold dropB at this
    exact this
  have hrun := chg_A (F := fun _ _ _ => 0) (sp := noSpec) (g := 13) (args := argsH .var) (p := goodF .var ++ (notF .var 5 ++ oldF j0)) (e := .var 11) (ws := fun _ => ((List.range 5).eraseIdx j0).map oldW ++ [newW]) (v := fun _ => .int .i64 (.lit 0)) hP5 hlay h0 hd ht noSpec_ok
    (fsOk_app (goodF_ok (fun j hj => arg_ev j hj) b1 b2 b3 b4) (fsOk_app (notF_ok (by decide) (arg_ev 7 (by decide)) (arg_ev 8 (by decide)) (fun j hj => hnot j (by omega))) hF)) (hargs _ (by omega)) hB
  rw [hn] at ea
  rw [ea] at hrun
  refine hrun.mono fun x w' ⟨o, ho, hx, hl, hk'⟩ => ⟨hx, Turns.of hs' ?_ hφ hl hk'⟩
  show (put d t s.l).map viewA = _
  unfold put
  rw [hfi]
  simp only [if_pos hn, List.map_append]
  rw [holds _ (fun j hj => by have := List.mem_range.1 (List.mem_of_mem_eraseIdx hj); omega)]
  have he : ((List.range 5).eraseIdx j0).map (fun j => viewA (s.l.getD j [])) = (s.l.eraseIdx (old s.l)).map viewA := by
    have hmap : ∀ {α γ : Type} (g : α → γ) (q : List α) (k : Nat), (q.eraseIdx k).map g = (q.map g).eraseIdx k := fun g q => by
      induction q with
      | nil => intro k; rfl
      | cons x q ih => intro k; cases k with
        | zero => rfl
        | succ k => simp [ih]
    rw [hmap, hmap, ← hj0, ← hn, hrange]
  rw [he]
  show _ = _ ++ [Wr.view _ _ newW]
  rw [hnew]; rfl
/-- Hear. -/
theorem hear_any (h : ObA s b φ w) {d : List Int} {t : Int} (hd : fitsK ks11 d) (ht : (Lit.int .i64 t).wf = true) :
    Calls Tryd.prog 13 #[ptrV b, .agg (dsVals d).toArray, .int .i64 t] w fun e w' => e = .returned (.int .i64 (bad s d t)) ∧ Turns (hear s d t) b φ w w' := by
  have hob := h
  obtain ⟨hs, lb0, lc, ms, ts, hlay0, hφ0⟩ := h
  obtain ⟨lb, hlay, hφ, h0⟩ := ObA.nilList hlay0 hφ0
  have hw := st_wf hs
  by_cases hz : bad s d t = 0
  · rw [hz]
    cases hfi : Frm.find d s.l with
    | some i => exact hear_found hs hlay hφ h0 hd ht hz hfi
    | none =>
      by_cases hn5 : s.l.length < 5
      · exact hear_fresh hs hlay hφ h0 hd ht hz hfi hn5
      · exact hear_drop hs hlay hφ h0 hd ht hz hfi hn5
  · have e1 : hear s d t = s := by unfold hear; rw [if_neg hz]
    rw [e1]
    have hh := hlay.head
    have fin : ∀ j, SX.FsOk (envR (fun _ _ _ => 0) d t s.win s.need s.now [] [] []) (errF j) → (∀ lv, errB j (bad s d t) lv = true) → Calls Tryd.prog 13 #[ptrV b, .agg (dsVals d).toArray, .int .i64 t] w fun e w' => e = .returned (.int .i64 (bad s d t)) ∧ Turns s b φ w w' := fun j hF hB =>
      (hear_err hh hw hd ht hF (hB _)).mono fun x w' ⟨h1, h2⟩ => ⟨h1, Turns.same hob h2⟩
    have a : ∀ j, j < 11 → (E.var j).ev (envR (fun _ _ _ => 0) d t s.win s.need s.now [] [] []) = d.getD j 0 := fun j hj => arg_ev j hj
    have e11 : (E.var 11).ev (envR (fun _ _ _ => 0) d t s.win s.need s.now [] [] []) = t := rfl
    have e14 : (E.var 14).ev (envR (fun _ _ _ => 0) d t s.win s.need s.now [] [] []) = s.now := rfl
    have no : ∀ {p : Prop}, ¬ p → (p ↔ false = true) := fun hp => ⟨fun h => absurd h hp, fun h => Bool.noConfusion h⟩
    have yes : ∀ {p : Prop}, p → (p ↔ true = true) := fun hp => ⟨fun _ => rfl, fun _ => hp⟩
    by_cases c0 : t < 0
    · have hb : bad s d t = 3 := by unfold bad; rw [if_pos (.inl c0)]
      refine fin 0 ?_ (by rw [hb]; exact err_0)
      rw [errF, fsOk_cons, fsOk_nil, lt0_ev, e11, lit_ev]
      exact ⟨yes c0, trivial⟩
    · by_cases c1 : maxSim < t
      · have hb : bad s d t = 3 := by unfold bad; rw [if_pos (.inr c1)]
        refine fin 1 ?_ (by rw [hb]; exact err_1)
        unfold maxSim at c1
        rw [errF, fsOk_cons, fsOk_cons, fsOk_nil, lt0_ev, lt0_ev, e11, lit_ev, lit_ev]
        exact ⟨no c0, yes c1, trivial⟩
      · by_cases c2 : t < s.now
        · have hb : bad s d t = 12 := by unfold bad; rw [if_neg (by omega), if_pos c2]
          refine fin 2 ?_ (by rw [hb]; exact err_2)
          unfold maxSim at c1
          rw [errF, fsOk_cons, fsOk_cons, fsOk_cons, fsOk_nil, lt0_ev, lt0_ev, lt0_ev, e11, e14, lit_ev, lit_ev]
          exact ⟨no c0, no c1, yes c2, trivial⟩
        · by_cases c3 : d.getD 7 0 = d.getD 9 0
          · have hb : bad s d t = 18 := by unfold bad; rw [if_neg (by omega), if_neg c2, if_pos c3]
            refine fin 3 ?_ (by rw [hb]; exact err_3)
            unfold maxSim at c1
            rw [errF, fsOk_cons, fsOk_cons, fsOk_cons, fsOk_cons, fsOk_nil, lt0_ev, lt0_ev, lt0_ev, eqk_ev, a 7 (by decide), a 9 (by decide), e11, e14, lit_ev, lit_ev]
            exact ⟨no c0, no c1, no c2, yes c3, trivial⟩
          · by_cases c4 : d.getD 6 0 < 32
            · exact absurd (by unfold bad; rw [if_neg (by omega), if_neg c2, if_neg c3, if_neg (by omega)]) hz
            · have hb : bad s d t = 3 := by unfold bad; rw [if_neg (by omega), if_neg c2, if_neg c3, if_pos (by omega)]
              refine fin 4 ?_ (by rw [hb]; exact err_4)
              unfold maxSim at c1
              show SX.FsOk _ errF4
              rw [errF4, fsOk_cons, fsOk_cons, fsOk_cons, fsOk_cons, fsOk_cons, fsOk_nil, lt0_ev, lt0_ev, lt0_ev, lt0_ev, eqk_ev, a 7 (by decide), a 9 (by decide), a 6 (by decide), e11, e14, lit_ev, lit_ev, lit_ev]
              exact ⟨no c0, no c1, no c2, no c3, no c4, trivial⟩
end
end Go.Proofs.YtbjficjcgpgcbaaDoor
