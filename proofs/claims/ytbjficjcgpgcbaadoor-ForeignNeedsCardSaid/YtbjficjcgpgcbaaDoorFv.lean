/- Records of package foreign: what Best does; all methods at a law's calls. -/
import Derived.Test.YtbjficjcgpgcbaaDoorFu
import Derived.Test.YtbjficjcgpgcbaaDoorFt
namespace Go.Proofs.YtbjficjcgpgcbaaDoor
open Go Go.RowKit SX Frm Frn
set_option linter.unusedVariables false
set_option linter.unusedSimpArgs false

def bestV (q : List (List Int)) : Value := .tuple #[.agg (dsVals (bestD q)).toArray, .bool (decide (q ≠ []))]
theorem bestF_spec {ρ : Env} (hf0 : ρ.fn = FN) {fs : Fs} (hf : SX.FsOk ρ fs) {q : List (List Int)} (hq : ∀ i, i < q.length → E.evs ρ (qfs i) = q.getD i []) : ∀ (l : List Nat) (b r : Nat), b < q.length → (∀ i ∈ l, i < q.length) → bestF fs b l = some r →
    r = bestI (fun i b => ltB (q.getD i []) (q.getD b [])) b l ∧ r < q.length
  | [], b, r, hb, _, h => by obtain rfl := Option.some.inj h; exact ⟨rfl, hb⟩
  | i :: l, b, r, hb, hl, h => by
    have hi := hl i (List.mem_cons_self ..)
    have key := lessE_ev (ρ := ρ) hf0 (a := qfs i) (b := qfs b) rfl rfl
    rw [hq i hi, hq b hb] at key
    unfold bestF at h
    split at h
    · rename_i hd
      have h1 := of_decide_eq_true (decideE_spec hf hd)
      have h2 : ltB (q.getD i []) (q.getD b []) = true := key.1 h1
      have := bestF_spec hf0 hf hq l i r hi (fun j hj => hl j (List.mem_cons_of_mem _ hj)) h
      simp only [bestI, h2, if_true]
      exact this
    · rename_i hd
      have h1 := of_decide_eq_false (decideE_spec hf hd)
      have h2 : ltB (q.getD i []) (q.getD b []) = false := by
        cases hz : ltB (q.getD i []) (q.getD b []) with
        | false => rfl
        | true => exact absurd (key.2 hz) h1
      have := bestF_spec hf0 hf hq l b r hb (fun j hj => hl j (List.mem_cons_of_mem _ hj)) h
      simp only [bestI, h2, Bool.false_eq_true, if_false]
      exact this
    · cases h
theorem spBin_ok {ρ : Env} {w0 : World} {M : Nat → Prop} {gl : Gl} (hf : ρ.fn = FN) (hT : ∀ w', Kept w0 M w' → TabsIn tabs35 w') : SpecOkT Tryd.prog ρ w0 M gl spBin := orT_ok (spF_ok hf) (ofSpc_ok (spLess_ok hf hT))
section
variable {s : FS} {b : Nat} {φ : Nat → Prop} {w w' : World}
theorem best_any (h : ObA s b φ w) {t : Int} (ht : (Lit.int .i64 t).wf = true) (hT : ∀ w', Kept w φ w' → TabsIn tabs35 w') :
    Calls Tryd.prog 15 #[ptrV b, .int .i64 t] w fun e w' => e = .returned (bestV (qual s t)) ∧ Turns s b φ w w' := by
  have hOb : Ob 1 [code s] b φ w := (⟨s, rfl, h⟩ : ∃ s', code s' = code s ∧ ObA s' b φ w)
  have key0 : ∀ (k : Nat) (x : Box), bestHp.at k = some x → k = 0 ∧ x = ⟨true, .obj 1 [.var 0]⟩ := fun k x hk => by
    obtain ⟨h1, h2⟩ := Hp.at_some.1 hk
    exact ⟨by have : k < 1 := h1; omega, h2.symm⟩
  have hh : Heap (envOf FN [code s, t]) w φ (fun _ => (b, 0)) bestHp w := by
    refine ⟨fun k x hk => ?_, fun j k x y hj hk hx _ _ => ?_, fun k x hk _ hx => ?_, fun k x hk => ?_, Kept.refl w φ, fun k x hk hx => ?_, fun _ => φ, fun k x q es hk e => ?_, fun k x hk _ i hi => .inl hi, fun j k x y hj hk _ hjk => ?_⟩
    · obtain ⟨rfl, rfl⟩ := key0 k x hk; trivial
    · obtain ⟨rfl, rfl⟩ := key0 j x hj; cases hx
    · obtain ⟨rfl, rfl⟩ := key0 k x hk; cases hx
    · obtain ⟨rfl, rfl⟩ := key0 k x hk; trivial
    · obtain ⟨rfl, rfl⟩ := key0 k x hk; cases hx
    · obtain ⟨rfl, rfl⟩ := key0 k x hk
      cases e
      exact hOb
    · exact absurd ((key0 j x hj).1.trans (key0 k y hk).1.symm) hjk
  have hF : SX.FsOk (envOf FN [code s, t]) [rngV 1] := by
    rw [fsOk_one]
    have := (wf_iff .i64 t).1 ht
    show (if IntKind.i64.min ≤ t ∧ t ≤ IntKind.i64.max then (1 : Int) else 0) ≠ 0 ↔ _
    rw [if_pos this]
    exact ⟨fun _ => rfl, fun _ => by decide⟩
  have hB := best_run
  unfold bestT at hB
  have ha : SV.oks (envOf FN [code s, t]) bestHp.n [.ptr 0 0, .int .i64 (.var 1)] := ⟨Nat.lt_succ_self 0, ht, trivial⟩
  have hC := callH_run (gl := []) (keep := noKeep) (fuel := 80) mixed okF_ok (spBin_ok (ρ := envOf FN [code s, t]) (w0 := w) (M := φ) (gl := []) rfl hT) 30
  have hD := hC 15 [.ptr 0 0, .int .i64 (.var 1)] bestHp [rngV 1] (fun _ => (b, 0)) w (fun x w' => x = bestV (qual s t) ∧ Turns s b φ w w') hh hF ha (fun _ h => by cases h)
  have ea : SV.evs (envOf FN [code s, t]) (fun _ => (b, 0)) [.ptr 0 0, .int .i64 (.var 1)] = [ptrV b, .int .i64 t] := rfl
  rw [ea] at hD
  refine (hD (T.holds_mono (fun o ho β' w' hx hl hst hh' hf _ => ?_) (T.all_holds hB))).2.mono fun x w' ⟨y, he, h1, h2⟩ => ⟨by rw [he, h1], h2⟩
  unfold bestEnd at ho
  rw [Bool.and_eq_true] at ho
  obtain ⟨o1, o2⟩ := ho
  have hturn : Turns s b φ w w' := by
    split at o1
    · rename_i hat
      obtain ⟨φ2, ho2⟩ := hh'.objs
      have hb0 : β' 0 = (b, 0) := hx 0 (by decide)
      have h1 := ho2.has 0 _ 1 [.var 0] hat rfl
      obtain ⟨s', hs', h2⟩ : ∃ s', code s' = code s ∧ ObA s' (β' 0).1 (φ2 0) w' := h1
      obtain rfl := code_inj hs'
      rw [hb0] at h2
      exact ⟨φ2 0, h2, fun i hi => ho2.own 0 _ hat rfl i hi, hh'.kept⟩
    · cases o1
  refine ⟨?_, hturn⟩
  have hfit := qual_fits h.1 t
  have hqn : ∀ m, numQ o.fs = some m → (qual s t).length = m := fun m hm => by
    have h1 := List.find?_some hm
    have h2 : decideE o.fs (eq0 (qnE (.var 0) (.var 1)) (litN m)) = some true := by simpa using h1
    have h3 := (eqk_ev (ρ := envOf FN [code s, t]) .i64 (qnE (.var 0) (.var 1)) (litN m)).1 (of_decide_eq_true (decideE_spec hf h2))
    rw [qnE_ev rfl] at h3
    have h4 : ((qual (dec (code s)) t).length : Int) = m := h3
    rw [dec_code] at h4
    omega
  have hqf : ∀ i j, (qfE (.var 0) (.var 1) i j).ev (envOf FN [code s, t]) = ((qual s t).getD i []).getD j 0 := fun i j => by
    rw [qfE_ev rfl]
    show ((qual (dec (code s)) t).getD i []).getD j 0 = _
    rw [dec_code]
  have hq : ∀ i, i < (qual s t).length → E.evs (envOf FN [code s, t]) (qfs i) = (qual s t).getD i [] := fun i hi => by
    have hlen : ((qual s t).getD i []).length = 11 := fits_len (hfit _ (getD_mem hi))
    have e1 : ∀ js : List Nat, E.evs (envOf FN [code s, t]) (js.map fun j => qfE (.var 0) (.var 1) i j) = js.map fun j => ((qual s t).getD i []).getD j 0 := fun js => by
      induction js with
      | nil => rfl
      | cons j js ih => simp only [List.map_cons, E.evs, ih, hqf]
    unfold qfs
    rw [e1, range11_self hlen]
  split at o2
  · rename_i hm
    have h0 : qual s t = [] := List.length_eq_zero_iff.1 (hqn 0 hm)
    obtain ⟨e1, _⟩ := SV.fit_spec (β := β') (m := o.hp.n) hf _ _ o2
    rw [e1, envSub_var, h0]
    rfl
  · rename_i m hm
    have hm' := hqn (m + 1) hm
    split at o2
    · rename_i i hi
      obtain ⟨e1, _⟩ := SV.fit_spec (β := β') (m := o.hp.n) hf _ _ o2
      obtain ⟨b1, b2⟩ := bestF_spec rfl hf hq (List.range' 1 m) 0 i (by omega) (fun j hj => by have := List.mem_range'.1 hj; omega) hi
      have hne : qual s t ≠ [] := fun e => by rw [e] at hm'; cases hm'
      have hbd : bestD (qual s t) = (qual s t).getD i [] := by
        unfold bestD bestK
        rw [if_neg hne, hm', b1]; rfl
      rw [e1, envSub_var]
      show Value.tuple #[.agg (SV.evs _ _ (dsS (qfE (.var 0) (.var 1) i))).toArray, .bool true] = _
      rw [dsS_ev fun j hj => hqf i j]
      unfold bestV
      rw [hbd, decide_eq_true hne]
    · cases o2
  · cases o2
end
/-! ### At a law's calls -/
def hasRo (hp : Hp) : Bool := match hp.at 0 with
  | some ⟨_, .ro (_ :: _)⟩ => true
  | _ => false
def spBest : SpcT := fun f args hp fs => match args with
  | [.ptr k 0, .int .i64 t] => if f = 15 ∧ hasRo hp = true then (match objOf 1 hp k with
    | some x => some (.ok ⟨.tuple [.agg (dsS (bstE (canon fs x) (canon fs t))), .bool (bokE (canon fs x) (canon fs t))], hp.put k ⟨true, .obj 1 [canon fs x]⟩, fs⟩)
    | none => none) else none
  | _ => none
theorem spBest_ok {ρ : Env} {w0 : World} (hf : ρ.fn = FN) (ht0 : TabsIn tabs35 w0) : SpecOkT Tryd.prog ρ w0 (fun _ => False) (tabGl tabs35 0) spBest := fun f args hp fs t ht β w K hh hfs ha hg hK => by
  unfold spBest at ht
  split at ht
  · rename_i k tm
    split at ht
    · rename_i hc
      obtain ⟨rfl, hro⟩ := hc
      split at ht
      · rename_i x hx
        obtain rfl := Option.some.inj ht
        obtain ⟨φ, ho⟩ := hh.objs
        obtain ⟨hob, hc⟩ := obj_recs ho hx
        have hTw := TabsIn.kept ht0 hh.kept
        have hg0 : (β 0).1 = 0 := (hg (0, 0) (List.mem_cons_self ..)).1
        have hT : ∀ w', Kept w (φ k) w' → TabsIn tabs35 w' := fun w' hk p hp' i v hv => by
          have h1 := hTw p hp' i v hv
          obtain rfl : p = (0, cells35) := by simpa [tabs35] using hp'
          have hlt := block_lt_of_cell h1
          have hno : ¬ φ k 0 := fun hi => by
            unfold hasRo at hro
            split at hro
            · rename_i r c0 c1 hat
              have hk0 := objOf_spec hx
              have hne : k ≠ 0 := fun e => by rw [e, hat] at hk0; cases hk0
              exact (ho.apart k 0 _ _ hk0 hat rfl hne _ hi).1 rfl hg0
            · cases hro
          have hbl := hk.block _ hlt hno
          have : w'.cell? ⟨0, i, none⟩ = w.cell? ⟨0, i, none⟩ := by unfold World.cell?; simp only [hbl]
          rw [this]; exact h1
        have e1 : ∀ j, (bstE (canon fs x) (canon fs tm) j).ev ρ = (bestD (qual (dec (x.ev ρ)) (tm.ev ρ))).getD j 0 := fun j => by rw [bstE_ev hf, canon_ev hfs, canon_ev hfs]
        have e2 := bokE_ev hf (canon fs x) (canon fs tm)
        rw [canon_ev hfs, canon_ev hfs] at e2
        have hval : ∀ β', (SV.tuple [.agg (dsS (bstE (canon fs x) (canon fs tm))), .bool (bokE (canon fs x) (canon fs tm))]).ev ρ β' = bestV (qual (dec (x.ev ρ)) (tm.ev ρ)) := fun β' => by
          show Value.tuple #[.agg (SV.evs ρ β' (dsS (bstE (canon fs x) (canon fs tm)))).toArray, .bool (decide ((bokE (canon fs x) (canon fs tm)).ev ρ ≠ 0))] = _
          rw [dsS_ev fun j _ => e1 j]
          unfold bestV
          rw [show decide ((bokE (canon fs x) (canon fs tm)).ev ρ ≠ 0) = decide (qual (dec (x.ev ρ)) (tm.ev ρ) ≠ []) from decide_eq_decide.2 e2]
        have hok : SV.oks ρ hp.n (dsS (bstE (canon fs x) (canon fs tm))) := by
          by_cases hq : qual (dec (x.ev ρ)) (tm.ev ρ) = []
          · refine dsS_ok (d := d0) (fun j hj => ?_) d0_fits
            rw [e1, hq]
            show ([] : List Int).getD j 0 = _
            match j, hj with
            | 0, _ => rfl | 1, _ => rfl | 2, _ => rfl | 3, _ => rfl | 4, _ => rfl | 5, _ => rfl | 6, _ => rfl | 7, _ => rfl | 8, _ => rfl | 9, _ => rfl | 10, _ => rfl
          · refine dsS_ok (d := bestD (qual (dec (x.ev ρ)) (tm.ev ρ))) (fun j hj => e1 j) ?_
            unfold bestD
            rw [if_neg hq]
            refine qual_fits hob.1 _ _ (getD_mem ?_)
            have hbl : ∀ (less : Nat → Nat → Bool) (n : Nat) (l : List Nat) (b : Nat), b < n → (∀ i ∈ l, i < n) → bestI less b l < n := fun less n l => by
              induction l with
              | nil => exact fun b hb _ => hb
              | cons i l ih =>
                intro b hb hl
                simp only [bestI]
                refine ih _ ?_ fun j hj => hl j (List.mem_cons_of_mem _ hj)
                split
                · exact hl i (List.mem_cons_self ..)
                · exact hb
            have hp := List.length_pos_iff.2 hq
            exact hbl _ _ _ _ hp fun i hi => by have := List.mem_range'.1 hi; omega
        refine (best_any hob ha.2.1 hT).mono fun e w' ⟨he, hTu⟩ => ⟨_, ?_, hK β w' (Ext.refl _ _) (Nat.le_refl _) (stay_put (objOf_spec hx)) (turn_out hh ho hx hTu ?_) hfs ⟨hok, trivial, trivial⟩⟩
        · rw [he, ← hval β]
        · rw [canon_ev hfs, hc]
      · cases ht
    · cases ht
  · cases ht
def spM : SpcT := orT spF (orT spBest (orT (ofSpc spLess) (ofSpc (sumSpec sums35))))
noncomputable def callM : Caller := callH Tryd.prog (tabGl tabs35 0) okF spM noKeep 80 30
theorem callM_ok {ρ : Env} {w0 : World} (hf : ρ.fn = FN) (ht : TabsIn tabs35 w0) : CallOk Tryd.prog ρ w0 (fun _ => False) (tabGl tabs35 0) callM :=
  callH_run mixed okF_ok (orT_ok (spF_ok hf) (orT_ok (spBest_ok hf ht) (orT_ok (ofSpc_ok (spLess_ok hf fun w' hk => TabsIn.kept ht hk)) (ofSpc_ok (sumSpec_ok (sums35_ok _ ht)))))) 30
end Go.Proofs.YtbjficjcgpgcbaaDoor
