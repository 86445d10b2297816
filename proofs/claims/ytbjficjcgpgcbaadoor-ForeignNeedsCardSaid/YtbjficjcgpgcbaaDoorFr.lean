/- Records of package foreign at a law's calls: Qualified, Forget, New. -/
import Derived.Test.YtbjficjcgpgcbaaDoorFo
namespace Go.Proofs.YtbjficjcgpgcbaaDoor
open Go Go.RowKit SX Frm Frn
set_option linter.unusedVariables false
set_option linter.unusedSimpArgs false

theorem qual_fits {s : FS} (hs : RsOk s) (t : Int) : ∀ d ∈ qual s t, fitsK ks11 d := fun d hd => by
  obtain ⟨r, hr, rfl⟩ := List.mem_map.1 hd
  have hr' := (List.mem_filter.1 hr).1
  exact (hs.msgs r hr' _ (lastM_mem (hs.some r hr').1)).fits
theorem qual_five {s : FS} (hs : RsOk s) (t : Int) : (qual s t).length ≤ 5 := by
  unfold qual quals
  rw [List.length_map]
  exact Nat.le_trans (List.length_filter_le _ _) hs.five
section
variable {ρ : Env} {w0 w : World} {M : Nat → Prop} {gl : Gl} {β : Bm} {hp : Hp} {fs : Fs}
theorem qualT_run {hp : Hp} {x t : E} {L : Nat} {Q : Out → Prop} (hlen : (qnE x t).ev ρ = (L : Int)) : ∀ (r m : Nat) (fs : Fs), SX.FsOk ρ fs → m ≤ L → L ≤ m + r → (qualT hp x t r m fs).holds ρ Q → ∃ fs', SX.FsOk ρ fs' ∧ Q (resQ hp fs' x t L)
  | 0, m, fs, hf, h1, h2, h => by
    obtain rfl : L = m := by omega
    refine ⟨_, learn_ok hf ?_, h⟩
    show (E.bin .eq .i64 (qnE x t) (litN L)).ev ρ ≠ 0 ↔ true = true
    rw [eqk_ev, hlen]
    exact ⟨fun _ => rfl, fun _ => rfl⟩
  | r + 1, m, fs, hf, h1, h2, h => by
    obtain ⟨fs', hf', h'⟩ := split_holds hf h
    rcases h' with ⟨c, h'⟩ | ⟨c, h'⟩
    · have e := (eqk_ev (ρ := ρ) .i64 (qnE x t) (litN m)).1 c
      rw [hlen] at e
      have : L = m := Int.ofNat.inj e
      subst this
      exact ⟨fs', hf', h'⟩
    · refine qualT_run hlen r (m + 1) fs' hf' ?_ (by omega) h'
      have : ¬ (qnE x t).ev ρ = (litN m).ev ρ := fun e => (eqk_ev (ρ := ρ) .i64 (qnE x t) (litN m)).2 e c
      rw [hlen] at this
      have h3 : ¬ L = m := fun e => this (by rw [e]; rfl)
      omega
theorem setsF_ev {β : Bm} (h : Nat → Nat → E) (g : Nat → List Int) : ∀ js : List Nat, (∀ i ∈ js, ∀ q, q < 11 → (h i q).ev ρ = (g i).getD q 0) → SV.evs ρ β (js.flatMap fun i => dsS (h i)) = ((js.map g).map dsVals).flatten
  | [], _ => rfl
  | i :: js, hq => by
    rw [List.flatMap_cons, evs_append, setsF_ev h g js fun j hj => hq j (List.mem_cons_of_mem _ hj), dsS_ev (hq i (List.mem_cons_self ..))]
    rfl
theorem setsF_ok {n : Nat} (h : Nat → Nat → E) (g : Nat → List Int) : ∀ js : List Nat, (∀ i ∈ js, ∀ q, q < 11 → (h i q).ev ρ = (g i).getD q 0) → (∀ i ∈ js, fitsK ks11 (g i)) → SV.oks ρ n (js.flatMap fun i => dsS (h i))
  | [], _, _ => trivial
  | i :: js, hq, hf => by
    rw [List.flatMap_cons]
    exact oks_append (dsS_ok (hq i (List.mem_cons_self ..)) (hf i (List.mem_cons_self ..))) (setsF_ok h g js (fun j hj => hq j (List.mem_cons_of_mem _ hj)) fun j hj => hf j (List.mem_cons_of_mem _ hj))
theorem setsF_len (h : Nat → Nat → E) : ∀ js : List Nat, (js.flatMap fun i => dsS (h i)).length = js.length * 11
  | [] => rfl
  | i :: js => by
    rw [List.flatMap_cons, List.length_append, setsF_len h js, List.length_cons]
    show 11 + _ = _
    omega
/-- New memory that holds data sets, as a box. -/
theorem newSets_out {q : List (List Int)} {w' : World} {e : Ending} {x t : E} {K : Value → World → Prop} (hh : Heap ρ w0 M β hp w) (hs : NewSets q w w' e) (hb : Below w.heap.size w w') (hfit : ∀ d ∈ q, fitsK ks11 d)
    (hq : ∀ i j, (qfE x t i j).ev ρ = (q.getD i []).getD j 0) {fs' : Fs} (hf' : SX.FsOk ρ fs')
    (hK : ∀ (β' : Bm) (w' : World), Ext hp.n β β' → hp.n ≤ (resQ hp fs' x t q.length).hp.n → Stay hp (resQ hp fs' x t q.length).hp → Heap ρ w0 M β' (resQ hp fs' x t q.length).hp w' → SX.FsOk ρ (resQ hp fs' x t q.length).fs → (resQ hp fs' x t q.length).v.ok ρ (resQ hp fs' x t q.length).hp.n → K ((resQ hp fs' x t q.length).v.ev ρ β') w') :
    ∃ v, e = .returned v ∧ K v w' := by
  rcases hs with ⟨rfl, rfl⟩ | ⟨blk, cap, rest, h1, rfl, h2, h3, h4⟩
  · exact ⟨_, rfl, hK β w' (Ext.refl _ _) (Nat.le_refl _) (Stay.refl _) (hh.below hb) hf' trivial⟩
  · obtain ⟨m, hm⟩ : ∃ m, q.length = m + 1 := ⟨q.length - 1, by have := List.length_pos_iff.2 h1; omega⟩
    rw [hm] at hK
    have hev : ∀ β', SV.evs ρ β' ((List.range (m + 1)).flatMap fun i => dsS (qfE x t i)) = (q.map dsVals).flatten := fun β' => by
      rw [setsF_ev (qfE x t) (fun i => q.getD i []) _ fun i _ j _ => hq i j]
      congr 2
      apply List.ext_getElem?
      intro i
      by_cases hi : i < q.length
      · rw [List.getElem?_map, List.getElem?_range (by omega)]
        simp [List.getD_eq_getElem?_getD, List.getElem?_eq_getElem hi]
      · rw [List.getElem?_eq_none (by simp; omega), List.getElem?_eq_none (by omega)]
    have hok : SV.oks ρ (hp.n + 1) ((List.range (m + 1)).flatMap fun i => dsS (qfE x t i)) := setsF_ok (qfE x t) (fun i => q.getD i []) _ (fun i _ j _ => hq i j) fun i hi => hfit _ (getD_mem (by have := List.mem_range.1 hi; omega))
    have hpush : Heap ρ w0 M (upd β hp.n (blk, cap)) (hp.push ⟨true, .cells ((List.range (m + 1)).flatMap fun i => dsS (qfE x t i)) 32 12⟩) w' :=
      (hh.below hb).push (fun j b' hj hv e => by
        have := Bx.lies_lt (hh.lies j b' hj) hv
        simp only at e
        omega) (.inr (Nat.le_trans hh.kept.size h2)) hok ⟨rest, by rw [hev]; exact h3, by rw [setsF_len, List.length_range, ← hm]; exact h4⟩ (hh.objs_new hb h2)
    refine ⟨_, rfl, ?_⟩
    have := hK (upd β hp.n (blk, cap)) w' (upd_ext _ _ _) (show hp.n ≤ hp.n + 1 from Nat.le_succ _) (Stay.push _ _) hpush hf' (show hp.n < hp.n + 1 from Nat.lt_succ_self _)
    have e2 : SV.ev ρ (upd β hp.n (blk, cap)) (SV.slice hp.n 0 (m + 1) none) = slV blk q.length cap := by
      show Value.slice (some ⟨(upd β hp.n (blk, cap) hp.n).1, 0, none⟩) (m + 1) (Option.getD none (upd β hp.n (blk, cap) hp.n).2) = _
      rw [upd_same, hm]; rfl
    rw [← e2]
    exact this
theorem spQual_ok (hf : ρ.fn = FN) : SpecOkT Tryd.prog ρ w0 M gl spQual := fun f args hp fs t ht β w K hh hfs ha hg hK => by
  unfold spQual at ht
  split at ht
  · rename_i k tm
    split at ht
    · rename_i hfe
      subst hfe
      split at ht
      · rename_i x hx
        obtain rfl := Option.some.inj ht
        obtain ⟨φ, ho⟩ := hh.objs
        obtain ⟨hob, hc⟩ := obj_recs ho hx
        have hqn : (qnE (canon fs x) (canon fs tm)).ev ρ = ((qual (dec (x.ev ρ)) (tm.ev ρ)).length : Int) := by rw [qnE_ev hf, canon_ev hfs, canon_ev hfs]
        obtain ⟨fs', hf', hQ⟩ := qualT_run hqn 5 0 fs hfs (Nat.zero_le _) (by have := qual_five hob.1 (tm.ev ρ); omega) hK
        exact (qual_any hob ha.2.1).mono fun e w' ⟨hs, hb⟩ => newSets_out hh hs hb (qual_fits hob.1 _) (fun i j => by rw [qfE_ev hf, canon_ev hfs, canon_ev hfs]) hf' hQ
      · cases ht
    · split at ht
      · rename_i hfe
        subst hfe
        split at ht
        · rename_i x hx
          obtain rfl := Option.some.inj ht
          obtain ⟨φ, ho⟩ := hh.objs
          obtain ⟨hob, hc⟩ := obj_recs ho hx
          have h5 := hob.1.five
          refine (forget_any hob ha.2.1).mono fun e w' ⟨he, hT⟩ => ⟨_, ?_, hK β w' (Ext.refl _ _) (Nat.le_refl _) (stay_put (objOf_spec hx)) (turn_out hh ho hx hT ?_) hfs ?_⟩
          · rw [he]
            show Ending.returned (.int .i64 _) = Ending.returned (.int .i64 ((goneE _ _).ev ρ))
            rw [goneE_ev hf, canon_ev hfs, canon_ev hfs]
          · rw [forgE_ev hf, canon_ev hfs, canon_ev hfs]
          · show (Lit.int .i64 ((goneE _ _).ev ρ)).wf = true
            rw [goneE_ev hf, canon_ev hfs, canon_ev hfs]
            unfold gone
            exact wfI (by omega)
        · cases ht
      · cases ht
  · cases ht
/-! ### New -/
def badNew (a b : Int) : Prop := a < 1 ∨ maxSim < a ∨ b < 1 ∨ 8 < b
def nilF (j : Nat) : Fs := match j with
  | 0 => [(lt0 (.var 12) (.lit 1), true)]
  | 1 => [(lt0 (.var 12) (.lit 1), false), (lt0 (.lit 1125899906842624) (.var 12), true)]
  | 2 => [(lt0 (.var 12) (.lit 1), false), (lt0 (.lit 1125899906842624) (.var 12), false), (lt0 (.var 13) (.lit 1), true)]
  | _ => [(lt0 (.var 12) (.lit 1), false), (lt0 (.lit 1125899906842624) (.var 12), false), (lt0 (.var 13) (.lit 1), false), (lt0 (.lit 8) (.var 13), true)]
def isNilP (o : Out) : Bool := match o.v with
  | .raw (.pointer none) => true
  | _ => false
noncomputable def nilB (j : Nat) : Bool := (callG Tryd.prog [] okF noSpec noKeep 80 30 10 [.int .i64 (.var 12), .int .i64 (.var 13)] .nil (nilF j)).all isNilP
theorem nil_runs : upTo 3 nilB = true := by kernel_rfl
theorem new_nil {win need : Int} (h1 : (Lit.int .i64 win).wf = true) (h2 : (Lit.int .i64 need).wf = true) (h : badNew win need) : Calls Tryd.prog 10 #[.int .i64 win, .int .i64 need] w fun e w' => e = .returned (.pointer none) ∧ Below w.heap.size w w' := by
  have go : ∀ j, j ≤ 3 → SX.FsOk (envR (fun _ _ _ => 0) d0 0 win need 0 [] [] []) (nilF j) → Calls Tryd.prog 10 #[.int .i64 win, .int .i64 need] w fun e w' => e = .returned (.pointer none) ∧ Below w.heap.size w w' := fun j hj hF => by
    have hr := upTo_spec nil_runs hj
    refine ((callG_run (gl := []) (keep := noKeep) (fuel := 80) mixed okF_ok noSpec_ok 30 10 [.int .i64 (.var 12), .int .i64 (.var 13)] .nil (nilF j) β0 w
      (fun x w' => x = .pointer none ∧ Below w.heap.size w w') (heap_nil _ _ (fun _ => False) _) hF ⟨h1, h2, trivial⟩ (fun _ h => by cases h)
      (T.holds_mono (fun o ho β' w' hx hl hst hh hf _ => ?_) (T.all_holds hr))).2).mono fun x w' ⟨y, he, h1, h2⟩ => ⟨by rw [he, h1], h2⟩
    unfold isNilP at ho
    split at ho
    · rename_i hv
      exact ⟨by rw [hv]; rfl, hh.kept.to_below⟩
    · cases ho
  have e12 : (E.var 12).ev (envR (fun _ _ _ => 0) d0 0 win need 0 [] [] []) = win := rfl
  have e13 : (E.var 13).ev (envR (fun _ _ _ => 0) d0 0 win need 0 [] [] []) = need := rfl
  have no : ∀ {p : Prop}, ¬ p → (p ↔ false = true) := fun hp => ⟨fun h => absurd h hp, fun h => Bool.noConfusion h⟩
  have yes : ∀ {p : Prop}, p → (p ↔ true = true) := fun hp => ⟨fun _ => rfl, fun _ => hp⟩
  unfold badNew maxSim at h
  by_cases c0 : win < 1
  · refine go 0 (by decide) ?_
    show SX.FsOk _ [(lt0 (.var 12) (.lit 1), true)]
    rw [fsOk_cons, fsOk_nil, lt0_ev, e12, lit_ev]
    exact ⟨yes c0, trivial⟩
  · by_cases c1 : 1125899906842624 < win
    · refine go 1 (by decide) ?_
      show SX.FsOk _ [(lt0 (.var 12) (.lit 1), false), (lt0 (.lit 1125899906842624) (.var 12), true)]
      rw [fsOk_cons, fsOk_cons, fsOk_nil, lt0_ev, lt0_ev, e12, lit_ev, lit_ev]
      exact ⟨no c0, yes c1, trivial⟩
    · by_cases c2 : need < 1
      · refine go 2 (by decide) ?_
        show SX.FsOk _ [(lt0 (.var 12) (.lit 1), false), (lt0 (.lit 1125899906842624) (.var 12), false), (lt0 (.var 13) (.lit 1), true)]
        rw [fsOk_cons, fsOk_cons, fsOk_cons, fsOk_nil, lt0_ev, lt0_ev, lt0_ev, e12, e13, lit_ev, lit_ev]
        exact ⟨no c0, no c1, yes c2, trivial⟩
      · refine go 3 (by decide) ?_
        show SX.FsOk _ [(lt0 (.var 12) (.lit 1), false), (lt0 (.lit 1125899906842624) (.var 12), false), (lt0 (.var 13) (.lit 1), false), (lt0 (.lit 8) (.var 13), true)]
        rw [fsOk_cons, fsOk_cons, fsOk_cons, fsOk_cons, fsOk_nil, lt0_ev, lt0_ev, lt0_ev, lt0_ev, e12, e13, lit_ev, lit_ev, lit_ev]
        exact ⟨no c0, no c1, no c2, yes (by omega), trivial⟩
theorem spNew_ok (hf : ρ.fn = FN) : SpecOkT Tryd.prog ρ w0 M gl spNew := fun f args hp fs t ht β w K hh hfs ha hg hK => by
  unfold spNew at ht
  split at ht
  · rename_i a b
    split at ht
    · rename_i hfe
      subst hfe
      obtain rfl := Option.some.inj ht
      have ca := canon_ev hfs a
      have cb := canon_ev hfs b
      have hnil : badNew (a.ev ρ) (b.ev ρ) → (∀ (β' : Bm) (w' : World), Ext hp.n β β' → hp.n ≤ hp.n → Stay hp hp → Heap ρ w0 M β' hp w' → K (.pointer none) w') → Calls Tryd.prog 10 (SV.evs ρ β [.int .i64 a, .int .i64 b]).toArray w fun e w' => ∃ v, e = .returned v ∧ K v w' := fun hb hk =>
        (new_nil ha.1 ha.2.1 hb).mono fun e w' ⟨he, hb⟩ => ⟨_, he, hk β w' (Ext.refl _ _) (Nat.le_refl _) (Stay.refl _) (hh.below hb)⟩
      unfold isNewR at hK
      obtain ⟨fs1, hf1, h1⟩ := split_holds hfs hK
      rcases h1 with ⟨c1, h1⟩ | ⟨c1, h1⟩
      · rw [lt0_ev, ca, lit_ev] at c1
        exact hnil (.inl c1) fun β' w' p1 p2 p3 p4 => h1 β' w' p1 p2 p3 p4 hf1 trivial
      have c1' : ¬ a.ev ρ < 1 := fun e => (lt0_ev (ρ := ρ) (canon fs a) (.lit 1)).2 (by rw [ca]; exact e) c1
      obtain ⟨fs2, hf2, h2⟩ := split_holds hf1 h1
      rcases h2 with ⟨c2, h2⟩ | ⟨c2, h2⟩
      · rw [lt0_ev, ca, lit_ev] at c2
        exact hnil (.inr (.inl c2)) fun β' w' p1 p2 p3 p4 => h2 β' w' p1 p2 p3 p4 hf2 trivial
      have c2' : ¬ 1125899906842624 < a.ev ρ := fun e => (lt0_ev (ρ := ρ) (.lit 1125899906842624) (canon fs a)).2 (by rw [ca]; exact e) c2
      obtain ⟨fs3, hf3, h3⟩ := split_holds hf2 h2
      rcases h3 with ⟨c3, h3⟩ | ⟨c3, h3⟩
      · rw [lt0_ev, cb, lit_ev] at c3
        exact hnil (.inr (.inr (.inl c3))) fun β' w' p1 p2 p3 p4 => h3 β' w' p1 p2 p3 p4 hf3 trivial
      have c3' : ¬ b.ev ρ < 1 := fun e => (lt0_ev (ρ := ρ) (canon fs b) (.lit 1)).2 (by rw [cb]; exact e) c3
      obtain ⟨fs4, hf4, h4⟩ := split_holds hf3 h3
      rcases h4 with ⟨c4, h4⟩ | ⟨c4, h4⟩
      · rw [lt0_ev, cb, lit_ev] at c4
        exact hnil (.inr (.inr (.inr c4))) fun β' w' p1 p2 p3 p4 => h4 β' w' p1 p2 p3 p4 hf4 trivial
      have c4' : ¬ 8 < b.ev ρ := fun e => (lt0_ev (ρ := ρ) (.lit 8) (canon fs b)).2 (by rw [cb]; exact e) c4
      refine (new_any (win := a.ev ρ) (need := b.ev ρ) (by unfold maxSim; omega) (by omega)).mono fun e w' ⟨blk, φ', he, hob, hφ, hb⟩ => ⟨_, he, ?_⟩
      have hev : (newE (canon fs a) (canon fs b)).ev ρ = code (newS (a.ev ρ) (b.ev ρ)) := by rw [newE_ev hf, ca, cb]
      have hob' : Ob 1 (E.evs ρ [newE (canon fs a) (canon fs b)]) blk φ' w' := (⟨_, hev.symm, hob⟩ : ∃ s, code s = (newE (canon fs a) (canon fs b)).ev ρ ∧ ObA s blk φ' w')
      have := h4 (upd β hp.n (blk, 0)) w' (upd_ext _ _ _) (by simp) (Stay.push _ _) (Heap.newObj hh hb hob' hφ) hf4 (by show hp.n < _; simp)
      have e2 : SV.ev ρ (upd β hp.n (blk, 0)) (SV.ptr hp.n 0) = ptrV blk := by
        show Value.pointer (some ⟨(upd β hp.n (blk, 0) hp.n).1, 0, none⟩) = _
        rw [upd_same]; rfl
      rw [e2] at this
      exact this
    · cases ht
  · cases ht
end
/-- The methods of package foreign. -/
def spF : SpcT := orT spHear (orT spQual (orT spLen spNew))
theorem spF_ok {ρ : Env} {w0 : World} {M : Nat → Prop} {gl : Gl} (hf : ρ.fn = FN) : SpecOkT Tryd.prog ρ w0 M gl spF := orT_ok (spHear_ok hf) (orT_ok (spQual_ok hf) (orT_ok (spLen_ok hf) (spNew_ok hf)))
end Go.Proofs.YtbjficjcgpgcbaaDoor
