/- Records of package foreign: what Forget, Qualified, Len and New do. -/
import Derived.Test.YtbjficjcgpgcbaaDoorFk0
import Derived.Test.YtbjficjcgpgcbaaDoorFk1
namespace Go.Proofs.YtbjficjcgpgcbaaDoor
open Go Go.RowKit SX Frm Frn
set_option linter.unusedVariables false
set_option linter.unusedSimpArgs false

theorem forg_all {n : Nat} (h5 : n ≤ 5) : forgB n = true := by
  match n, h5 with
  | 0, _ => exact forg_0
  | 1, _ => exact forg_1
  | 2, _ => exact forg_2
  | 3, _ => exact forg_3
  | 4, _ => exact forg_4
  | 5, _ => exact forg_5
theorem qual_all {n : Nat} (h5 : n ≤ 5) : qualB n = true := by
  match n, h5 with
  | 0, _ => exact qual_0
  | 1, _ => exact qual_1
  | 2, _ => exact qual_2
  | 3, _ => exact qual_3
  | 4, _ => exact qual_4
  | 5, _ => exact qual_5
/-- New memory that holds data sets, or nil. -/
def NewSets (l : List (List Int)) (w w' : World) (e : Ending) : Prop :=
  (l = [] ∧ e = .returned (.slice none 0 0)) ∨ ∃ blk cap rest, l ≠ [] ∧ e = .returned (slV blk l.length cap) ∧ w.heap.size ≤ blk ∧ w'.heap[blk]? = some (.cells ((l.map dsVals).flatten ++ rest).toArray 32 (0, 0)) ∧ l.length * 11 + rest.length = cap * 11
def d0 : List Int := [0, 0, 0, 0, 0, 0, 0, 0, 0, 0, 0]
theorem d0_fits : fitsK ks11 d0 := by
  refine ⟨by decide, by decide, by decide, by decide, by decide, by decide, by decide, by decide, by decide, by decide, by decide, by decide, by decide, by decide, by decide, by decide, by decide, by decide, by decide, by decide, by decide, by decide, rfl⟩
section
variable {s : FS} {b : Nat} {φ : Nat → Prop} {w w' : World}
theorem rsOk_forget (hs : RsOk s) (t : Int) : RsOk (forget s t) :=
  ⟨hs.win, hs.need, hs.now, Nat.le_trans (List.length_filter_le _ _) hs.five, fun r hr => hs.some r (List.mem_filter.1 hr).1, fun r hr => hs.msgs r (List.mem_filter.1 hr).1, hs.apart.sublist List.filter_sublist⟩
theorem newer_recent (s : FS) (t : Int) (r : List Msg) : newer t s.now s.win (viewA r).2 = recent s t r := by
  unfold newer recent viewA isNew
  rw [List.filter_map, List.length_map]
  rfl
theorem recE_ev {ρ : Env} {l : List RV} {now win t : Int} (hf : ρ.fn = FR l now win) {a : E} (ha : a.ev ρ = t) (i : Nat) : (recE i a).ev ρ = (newer t now win (l.getD i rec0).2 : Int) := by
  show ρ.fn 30 0 [Int.ofNat i, a.ev ρ] = _
  rw [hf, ha]; rfl
theorem forget_any (h : ObA s b φ w) {t : Int} (ht : (Lit.int .i64 t).wf = true) :
    Calls Tryd.prog 20 #[ptrV b, .int .i64 t] w fun e w' => e = .returned (.int .i64 (gone s t : Int)) ∧ Turns (forget s t) b φ w w' := by
  obtain ⟨hs, lb0, lc, ms, ts, hlay0, hφ0⟩ := h
  obtain ⟨lb, hlay, hφ, h0⟩ := ObA.nilList hlay0 hφ0
  have hw := st_wf hs
  have hlen : (s.l.map viewA).length = s.l.length := by simp
  have hP : PackOk (s.l.map viewA) [] s.win s.need s.now s.l.length none := ⟨hlen, hs.five, fun r hr => rv_ok hs hr, hw, fun i k he => by cases he⟩
  have hrun := chg_C (F := FR (s.l.map viewA) s.now s.win) (t := t) hP hlay h0 d0_fits ht (spRecent_ok hlen hs.five (fun r hr => rv_ok hs hr) hs.win hs.now) (p := []) (fun _ h => by cases h) (args := argsT) ⟨by show 0 < _; omega, ht, trivial⟩ (forg_all hs.five)
  refine hrun.mono fun x w' ⟨o, ho, hc, hx, hl, hk⟩ => ?_
  have hin : ∀ i, i < s.l.length → isIn keepE true o.fs i = decide (0 < recent s t (s.l.getD i [])) := fun i hi => by
    have h1 := isIn_spec (want := true) ho hc hi
    have h2 : (keepE i).ev (envR (FR (s.l.map viewA) s.now s.win) d0 t s.win s.need s.now (s.l.map viewA) ts []) ≠ 0 ↔ 0 < recent s t (s.l.getD i []) := by
      unfold keepE
      rw [lt0_ev, recE_ev rfl (t := t) rfl, view_get hi, newer_recent, lit_ev]
      omega
    rw [decide_eq_true_iff, h2] at h1
    by_cases hq : 0 < recent s t (s.l.getD i [])
    · rw [decide_eq_true hq, h1.2 hq]
    · rw [decide_eq_false hq]
      cases hz : isIn keepE true o.fs i with
      | false => rfl
      | true => exact absurd (h1.1 hz) hq
  have hkept : (keptI s.l.length o).map (fun i => s.l.getD i []) = Frm.kept s t := filter_range [] (fun r => decide (0 < recent s t r)) s.l s.l.length _ rfl hin
  have hnum : (keptI s.l.length o).length = (Frm.kept s t).length := by rw [← hkept, List.length_map]
  refine ⟨?_, Turns.of (rsOk_forget hs t) ?_ hφ hl hk⟩
  · rw [hx]
    show Ending.returned (.int .i64 (Int.ofNat (s.l.length - (keptI s.l.length o).length))) = _
    rw [hnum]; rfl
  · show (Frm.kept s t).map viewA = _
    rw [← hkept, List.map_map, List.map_map]
    refine List.map_congr_left fun i hi => ?_
    have hi' : i < s.l.length := List.mem_range.1 (List.mem_filter.1 hi).1
    show viewA (s.l.getD i []) = Wr.view _ _ (oldW i)
    rw [old_view hP hi', view_get hi']
theorem sets_ev {ρ : Env} {β : Bm} (g : Nat → List Int) : ∀ js : List Nat, (∀ i ∈ js, ∀ q, q < 11 → (recVar i q).ev ρ = (g i).getD q 0) → SV.evs ρ β (js.flatMap fun i => dsS (recVar i)) = ((js.map g).map dsVals).flatten
  | [], _ => rfl
  | i :: js, h => by
    rw [List.flatMap_cons, evs_append, sets_ev g js fun j hj => h j (List.mem_cons_of_mem _ hj), dsS_ev (h i (List.mem_cons_self ..))]
    rfl
theorem sets_len : ∀ js : List Nat, (js.flatMap fun i => dsS (recVar i)).length = js.length * 11
  | [] => rfl
  | i :: js => by
    rw [List.flatMap_cons, List.length_append, sets_len js, List.length_cons]
    show 11 + _ = _
    omega
theorem qual_any (h : ObA s b φ w) {t : Int} (ht : (Lit.int .i64 t).wf = true) :
    Calls Tryd.prog 18 #[ptrV b, .int .i64 t] w fun e w' => NewSets (qual s t) w w' e ∧ Below w.heap.size w w' := by
  obtain ⟨hs, lb0, lc, ms, ts, hlay0, hφ0⟩ := h
  obtain ⟨lb, hlay, hφ, h0⟩ := ObA.nilList hlay0 hφ0
  have hw := st_wf hs
  have hlen : (s.l.map viewA).length = s.l.length := by simp
  have hP : PackOk (s.l.map viewA) [] s.win s.need s.now s.l.length none := ⟨hlen, hs.five, fun r hr => rv_ok hs hr, hw, fun i k he => by cases he⟩
  have hh0 := Heap.still_ (pack_A (F := FR (s.l.map viewA) s.now s.win) (d := d0) (t := t) (tm := []) hP hlay h0) (fun k hk => by
    rcases box_cases hk with rfl | rfl | ⟨i, hi, rfl⟩ | ⟨i, hi, rfl⟩
    · rfl
    · by_cases hz : s.l.length = 0
      · show (boxA s.l.length none 1).c.isObj = false
        rw [hz]; rfl
      · show (boxA s.l.length none 1).c.isObj = false
        rw [boxA_1 (by omega)]; rfl
    · show (boxA s.l.length none (2 + i)).c.isObj = false
      rw [boxA_r hi]; rfl
    · show (boxA s.l.length none (2 + s.l.length + i)).c.isObj = false
      rw [boxA_t]; rfl)
  have hargs : SV.oks (envR (FR (s.l.map viewA) s.now s.win) d0 t s.win s.need s.now (s.l.map viewA) ts []) (2 + s.l.length + s.l.length) argsT := ⟨by show 0 < _; omega, ht, trivial⟩
  refine ((callG_run (gl := []) (keep := noKeep) (fuel := 80) mixed okF_ok (spRecent_ok hlen hs.five (fun r hr => rv_ok hs hr) hs.win hs.now) 30 18 argsT (still (hpA s.l.length none)) ([] ++ factsA s.l.length none) _ w
    (fun x w' => NewSets (qual s t) w w' (.returned x) ∧ Below w.heap.size w w') hh0 (fsOk_app (fun _ h => by cases h) (factsA_ok hP hlay d0_fits ht)) hargs (fun _ h => by cases h)
    (T.holds_mono (fun o ho β' w' hx hl hst hh hf _ => ?_) (T.all_holds (qual_all hs.five)))).2).mono fun x w' ⟨y, he, h1, h2⟩ => ⟨by rw [he]; exact h1, h2⟩
  unfold qualEnd at ho
  rw [Bool.and_eq_true] at ho
  obtain ⟨hc, ho⟩ := ho
  refine ⟨?_, hh.kept.to_below⟩
  have hin : ∀ i, i < s.l.length → isIn lessF false o.fs i = decide (s.need ≤ (recent s t (s.l.getD i []) : Int)) := fun i hi => by
    have h1 := isIn_spec (want := false) hf hc hi
    have h2 : (lessF i).ev (envR (FR (s.l.map viewA) s.now s.win) d0 t s.win s.need s.now (s.l.map viewA) ts []) ≠ 0 ↔ (recent s t (s.l.getD i []) : Int) < s.need := by
      unfold lessF
      rw [lt0_ev, recE_ev rfl (t := t) rfl, view_get hi, newer_recent]
      rfl
    rw [decide_eq_false_iff_not, h2] at h1
    by_cases hq : s.need ≤ (recent s t (s.l.getD i []) : Int)
    · rw [decide_eq_true hq, h1.2 (by omega)]
    · rw [decide_eq_false hq]
      cases hz : isIn lessF false o.fs i with
      | false => rfl
      | true => exact absurd (h1.1 hz) (by omega)
  have hq : (qualI s.l.length o).map (fun i => s.l.getD i []) = quals s t := filter_range [] (fun r => decide (s.need ≤ (recent s t r : Int))) s.l s.l.length _ rfl hin
  have hqs : qual s t = (qualI s.l.length o).map fun i => (lastM (s.l.getD i [])).d := by
    unfold qual
    rw [← hq, List.map_map]; rfl
  have hmem : ∀ i ∈ qualI s.l.length o, i < s.l.length := fun i hi => List.mem_range.1 (List.mem_filter.1 hi).1
  rw [hqs]
  split at ho
  · rename_i hnil
    rw [hnil]
    split at ho
    · rename_i hv
      rw [hv]
      exact .inl ⟨rfl, rfl⟩
    · cases ho
  · rename_i i js hcons
    rw [hcons] at hmem ⊢
    split at ho
    · rename_i k m hv
      rw [Bool.and_eq_true, beq_iff, decide_eq_true_eq] at ho
      obtain ⟨hm, ho⟩ := ho
      obtain ⟨c, hk, _⟩ := isCells_spec hh hf ho
      unfold isCells at ho
      rw [hk] at ho
      simp only [Bool.and_eq_true] at ho
      obtain ⟨e1, _⟩ := SV.fitL_spec (β := β') (m := o.hp.n) hf _ _ ho.2
      rw [envSub_var] at e1
      have e1 : SV.evs _ β' c = SV.evs _ β' ((i :: js).flatMap fun i => dsS (recVar i)) := e1
      obtain ⟨rest, r1, r2⟩ := hh.lies k _ hk
      have hlc : c.length = (i :: js).length * 11 := by
        have := congrArg List.length e1
        rw [SV.evs_map, SV.evs_map, List.length_map, List.length_map, sets_len] at this
        exact this
      rw [e1, sets_ev (fun i => (lastM (s.l.getD i [])).d) (i :: js) (fun j hj q hq' => by
        have hj' := hmem j hj
        rw [rec_d j (by have := hs.five; omega) q hq', view_get hj']; rfl)] at r1
      refine .inr ⟨(β' k).1, (β' k).2, rest, by simp, ?_, ?_, r1, ?_⟩
      · rw [hv]
        show Ending.returned (.slice (some ⟨(β' k).1, 0, none⟩) m (Option.getD none (β' k).2)) = _
        rw [hm]
        simp [slV]
      · rcases hh.mine k _ hk rfl rfl with h1 | h1
        · exact h1.elim
        · exact h1
      · rw [List.length_map, ← hlc]; exact r2
    · cases ho
end
end Go.Proofs.YtbjficjcgpgcbaaDoor
