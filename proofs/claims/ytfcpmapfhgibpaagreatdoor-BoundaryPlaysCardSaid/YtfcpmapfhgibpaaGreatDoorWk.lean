/- Names of what records do; tables and examples of layer 41; Less, Best. -/
import Derived.Test.YtfcpmapfhgibpaaGreatDoorWi
import Derived.Test.YtfcpmapfhgibpaaGreatDoorWb
import Derived.Test.YtfcpmapfhgibpaaGreatDoorWj
import Derived.Test.YtfcpmapfhgibpaaGreatDoorWg
import Derived.Test.YtfcpmapfhgibpaaGreatDoorWe
import Derived.Test.YtfcpmapfhgibpaaGreatDoorTie
import Derived.Test.YtfcpmapfhgibpaaGreatDoorCards
set_option linter.unusedVariables false
set_option linter.unusedSimpArgs false
set_option maxRecDepth 1000000
namespace Go.Proofs.YtfcpmapfhgibpaaGreatDoor
noncomputable section
section
open Go Go.RowKit SX Frm Frn
section
variable {s : FS} {b : Nat} {φ : Nat -> Prop} {w w' : World}
theorem newS_ok {win need : Int} (hw : 1 <= win /\ win <= maxSim) (hn : 1 <= need /\ need <= 8) : RsOk (newS win need) :=
 ⟨hw, hn, ⟨Int.le_refl 0, (by show (0 : Int) <= maxSim; decide)⟩, Nat.zero_le _, fun r hr => absurd hr (List.not_mem_nil), fun r hr => absurd hr (List.not_mem_nil), List.Pairwise.nil⟩
theorem new_any {win need : Int} (hw : 1 <= win /\ win <= maxSim) (hn : 1 <= need /\ need <= 8) : Calls Tryz.prog 24 #[.int .i64 win, .int .i64 need] w fun e w' => ∃ b φ, e = .returned (ptrV b) /\ ObA (newS win need) b φ w' /\ (∀ i, φ i -> w.heap.size <= i) /\ Below w.heap.size w w' := by
 have h1 : (Lit.int .i64 win).wf = true := by unfold maxSim at hw; exact wfI (by omega)
 have h2 : (Lit.int .i64 need).wf = true := wfI (by omega)
 have hF : SX.FsOk (envR (fun _ _ _ => 0) d0 0 win need 0 [] [] []) newF := by
  unfold maxSim at hw; have e12 : (E.var 12).ev (envR (fun _ _ _ => 0) d0 0 win need 0 [] [] []) = win := rfl
  have e13 : (E.var 13).ev (envR (fun _ _ _ => 0) d0 0 win need 0 [] [] []) = need := rfl
  rw [newF, fsOk_cons, fsOk_cons, fsOk_cons, fsOk_cons, fsOk_nil, lt0_ev, lt0_ev, lt0_ev, lt0_ev, e12, e13, lit_ev, lit_ev, lit_ev]; exact ⟨⟨fun h => by omega, fun h => Bool.noConfusion h⟩, ⟨fun h => by omega, fun h => Bool.noConfusion h⟩, ⟨fun h => by omega, fun h => Bool.noConfusion h⟩, ⟨fun h => by omega, fun h => Bool.noConfusion h⟩, trivial⟩
 refine ((callG_run (gl := []) (keep := noKeep) (fuel := 80) mixed okF_ok noSpec_ok 30 24 [.int .i64 (.var 12), .int .i64 (.var 13)] .nil newF β0 w
  (fun x w' => ∃ b φ, x = ptrV b /\ ObA (newS win need) b φ w' /\ (∀ i, φ i -> w.heap.size <= i) /\ Below w.heap.size w w') (heap_nil _ _ (fun _ => False) _) hF ⟨h1, h2, trivial⟩ (fun _ h => by cases h)
  (T.holds_mono (fun o ho β' w' hx hl hst hh hf _ => ?_) (T.all_holds new_run))).2).mono fun x w' ⟨y, he, b, φ, h1, h2⟩ => ⟨b, φ, by rw [he, h1], h2⟩
 unfold newEnd at ho; split at ho
 ·rename_i k hv
  have hl := isCells_lies hh hf ho; obtain ⟨c, hk, _⟩ := isCells_spec hh hf ho; refine ⟨(β' k).1, fun i => i = (β' k).1, (by rw [hv]; rfl), ⟨newS_ok hw hn, 0, 0, [], [], ⟨rfl, rfl, hl, fun h => absurd rfl h, fun i r m t h => (by simp [newS] at h), fun i r t h => (by simp [newS] at h), (by simp [newS])⟩, fun i => ?_⟩, fun i hi => ?_, hh.kept.to_below⟩
  ·show i = (β' k).1 ↔ i ∈ blksA [] (β' k).1 0 [] []
   simp [blksA]
  ·subst hi
   rcases hh.mine k _ hk rfl rfl with h | h
   ·exact h.elim
   ·exact h
 ·cases ho
end
def hearA (x : E) (d : List E) (t : E) : List E := x :: (d ++ [t])
def hearE (x : E) (d : List E) (t : E) : E := .app 40 0 (hearA x d t)
def badE (x : E) (d : List E) (t : E) : E := .app 41 0 (hearA x d t)
def qnE (x t : E) : E := .app 42 0 [x, t]
def qfE (x t : E) (i j : Nat) : E := .app 43 j [x, t, litN i]
def newE (a b : E) : E := .app 45 0 [a, b]
def forgE (x t : E) : E := .app 46 0 [x, t]
def goneE (x t : E) : E := .app 47 0 [x, t]
def lessE (a b : List E) : E := .app 3 0 (a ++ b)
def bstE (x t : E) (j : Nat) : E := .app 48 j [x, t]
def bokE (x t : E) : E := .app 49 0 [x, t]
section
variable {ρ : Env}
theorem evs_take {d : List E} {t : E} (h : d.length = 11) (x : E) : (E.evs ρ (hearA x d t)).headD 0 = x.ev ρ /\ (E.evs ρ (hearA x d t)).tail.take 11 = E.evs ρ d /\ (E.evs ρ (hearA x d t)).getD 12 0 = t.ev ρ := by
 have hl : (E.evs ρ d).length = 11 := by rw [evs_len]; exact h
 refine ⟨rfl, ?_, ?_⟩
 ·show (E.evs ρ (d ++ [t])).take 11 = _
  rw [evs_app, List.take_append_of_le_length (by omega), List.take_of_length_le (by omega)]
 ·show (x.ev ρ :: E.evs ρ (d ++ [t])).getD 12 0 = _
  rw [evs_app, List.getD_cons_succ, gDe, List.getElem?_append_right (by omega), hl]
  rfl
theorem hearE_ev (hf : Low ρ.fn) {x t : E} {d : List E} (h : d.length = 11) : (hearE x d t).ev ρ = code (hear (dec (x.ev ρ)) (E.evs ρ d) (t.ev ρ)) := by
 obtain ⟨e1, e2, e3⟩ := evs_take (ρ := ρ) (t := t) h x; show ρ.fn 40 0 (E.evs ρ (hearA x d t)) = _; rw [hf 40 (by decide)]
 show code (hear (dec ((E.evs ρ (hearA x d t)).headD 0)) ((E.evs ρ (hearA x d t)).tail.take 11) ((E.evs ρ (hearA x d t)).getD 12 0)) = _; rw [e1, e2, e3]
theorem badE_ev (hf : Low ρ.fn) {x t : E} {d : List E} (h : d.length = 11) : (badE x d t).ev ρ = bad (dec (x.ev ρ)) (E.evs ρ d) (t.ev ρ) := by
 obtain ⟨e1, e2, e3⟩ := evs_take (ρ := ρ) (t := t) h x; show ρ.fn 41 0 (E.evs ρ (hearA x d t)) = _; rw [hf 41 (by decide)]
 show bad (dec ((E.evs ρ (hearA x d t)).headD 0)) ((E.evs ρ (hearA x d t)).tail.take 11) ((E.evs ρ (hearA x d t)).getD 12 0) = _; rw [e1, e2, e3]
theorem qnE_ev (hf : Low ρ.fn) (x t : E) : (qnE x t).ev ρ = ((qual (dec (x.ev ρ)) (t.ev ρ)).length : Int) := by show ρ.fn 42 0 _ = _; rw [hf 42 (by decide)]; rfl
theorem qfE_ev (hf : Low ρ.fn) (x t : E) (i j : Nat) : (qfE x t i j).ev ρ = ((qual (dec (x.ev ρ)) (t.ev ρ)).getD i []).getD j 0 := by show ρ.fn 43 j _ = _; rw [hf 43 (by decide)]; rfl
theorem newE_ev (hf : Low ρ.fn) (a b : E) : (newE a b).ev ρ = code (newS (a.ev ρ) (b.ev ρ)) := by show ρ.fn 45 0 _ = _; rw [hf 45 (by decide)]; rfl
theorem forgE_ev (hf : Low ρ.fn) (x t : E) : (forgE x t).ev ρ = code (forget (dec (x.ev ρ)) (t.ev ρ)) := by show ρ.fn 46 0 _ = _; rw [hf 46 (by decide)]; rfl
theorem goneE_ev (hf : Low ρ.fn) (x t : E) : (goneE x t).ev ρ = (gone (dec (x.ev ρ)) (t.ev ρ) : Int) := by show ρ.fn 47 0 _ = _; rw [hf 47 (by decide)]; rfl
end
theorem bstE_ev {ρ : Env} (hf : Low ρ.fn) (x t : E) (j : Nat) : (bstE x t j).ev ρ = (bestD (qual (dec (x.ev ρ)) (t.ev ρ))).getD j 0 := by show ρ.fn 48 j _ = _; rw [hf 48 (by decide)]; rfl
theorem bokE_ev {ρ : Env} (hf : Low ρ.fn) (x t : E) : (bokE x t).ev ρ ≠ 0 ↔ qual (dec (x.ev ρ)) (t.ev ρ) ≠ [] := by
 show ρ.fn 49 0 _ ≠ 0 ↔ _; rw [hf 49 (by decide)]
 show (if qual (dec (x.ev ρ)) (t.ev ρ) = [] then (0 : Int) else 1) ≠ 0 ↔ _
 split <;> simp [*]
theorem lessE_ev {ρ : Env} (hf : Low ρ.fn) {a b : List E} (ha : a.length = 11) (hb : b.length = 11) : (lessE a b).ev ρ ≠ 0 ↔ ltB (E.evs ρ a) (E.evs ρ b) = true := by
 show ρ.fn 3 0 (E.evs ρ (a ++ b)) ≠ 0 ↔ _; rw [hf 3 (by decide)]
 show (if ltB ((E.evs ρ (a ++ b)).take 11) (((E.evs ρ (a ++ b)).drop 11).take 11) then (1 : Int) else 0) ≠ 0 ↔ _
 have h1 : (E.evs ρ a).length = 11 := by rw [evs_len]; exact ha
 have h2 : (E.evs ρ b).length = 11 := by rw [evs_len]; exact hb
 rw [evs_app, List.take_append_of_le_length (by omega), List.take_of_length_le (by omega), List.drop_append_of_le_length (by omega), List.drop_of_length_le (by omega), List.nil_append, List.take_of_length_le (by omega)]
 split <;> simp [*]
def takeK : List IntKind -> List SV -> Option (List E)
 | [], [] => some []
 | k :: ks, .int k' e :: ss => if kTag k' = kTag k then (takeK ks ss).map (e :: ·) else none
 | _, _ => none
theorem takeK_spec {ρ : Env} {β : Bm} {n : Nat} : ∀ {ks : List IntKind} {ss : List SV} {es : List E}, takeK ks ss = some es -> SV.oks ρ n ss -> SV.evs ρ β ss = valsK ks (E.evs ρ es) /\ fitsK ks (E.evs ρ es) /\ es.length = ks.length
 | [], [], es, h, _ => by obtain rfl := sinj h; exact ⟨rfl, rfl, rfl⟩
 | [], _ :: _, es, h, _ => by simp [takeK] at h
 | k :: ks, [], es, h, _ => by simp [takeK] at h
 | k :: ks, s :: ss, es, h, hok => by
  unfold takeK at h; split at h
  ·rename_i e1 e2; cases e1
  ·rename_i k1 ks1 k' e ss1 h1 h2
   cases h1; cases h2; split at h
   ·rename_i hk
    obtain rfl := kTag_inj hk; simp only [Option.map_eq_some_iff] at h; obtain ⟨es', he, rfl⟩ := h; obtain ⟨a1, a2, a3⟩ := takeK_spec (β := β) he hok.2; refine ⟨?_, ⟨hok.1, by simp [E.evs], a2⟩, by simp [a3]⟩
    simp only [SV.evs, SV.ev, valsK, E.evs, a1, List.headD_cons, List.tail_cons]
   ·cases h
  ·cases h
def canons (fs : Fs) (es : List E) : List E := es.map (canon fs)
theorem canons_ev {ρ : Env} {fs : Fs} (hf : SX.FsOk ρ fs) : ∀ es : List E, E.evs ρ (canons fs es) = E.evs ρ es
 | [] => rfl
 | e :: es => by
  have := canons_ev hf es; unfold canons at *; simp only [List.map_cons, E.evs, this, canon_ev hf]
def resQ (hp : Hp) (fs : Fs) (x t : E) (m : Nat) : Out :=
 match m with
 | 0 => ⟨.raw (.slice none 0 0), hp, fs⟩
 | m + 1 => ⟨.slice hp.n 0 (m + 1) none, hp.push ⟨true, .cells ((List.range (m + 1)).flatMap fun i => dsS (qfE x t i)) 46 12⟩, fs⟩
def qualT (hp : Hp) (x t : E) : Nat -> Nat -> Fs -> T Out
 | 0, m, fs => .ok (resQ hp (learn fs (eq0 (qnE x t) (litN m)) true) x t m)
 | r + 1, m, fs => SX.split fs (eq0 (qnE x t) (litN m)) (fun fs => .ok (resQ hp fs x t m)) (fun fs => qualT hp x t r (m + 1) fs)
def isNewR (a b : E) (hp : Hp) (fs : Fs) : T Out :=
 SX.split fs (lt0 a (.lit 1)) (fun fs => .ok ⟨.raw (.pointer none), hp, fs⟩) fun fs => SX.split fs (lt0 (.lit 1125899906842624) a) (fun fs => .ok ⟨.raw (.pointer none), hp, fs⟩) fun fs =>
  SX.split fs (lt0 b (.lit 1)) (fun fs => .ok ⟨.raw (.pointer none), hp, fs⟩) fun fs => SX.split fs (lt0 (.lit 8) b) (fun fs => .ok ⟨.raw (.pointer none), hp, fs⟩) fun fs => .ok ⟨.ptr hp.n 0, hp.push ⟨true, .obj 1 [newE a b]⟩, fs⟩
def objOf (q : Nat) (hp : Hp) (k : Nat) : Option E :=
 match hp.at k with
 | some ⟨true, .obj q' [x]⟩ => if q' = q then some x else none
 | _ => none
theorem objOf_spec {q : Nat} {hp : Hp} {k : Nat} {x : E} (h : objOf q hp k = some x) : hp.at k = some ⟨true, .obj q [x]⟩ := by
 unfold objOf at h; split at h
 ·rename_i q' x' hk
  split at h
  ·rename_i hq
   subst hq; obtain rfl := sinj h; exact hk
  ·cases h
 ·cases h
def spHear : SpcT := fun f args hp fs => match args with
 | [.ptr k 0, .agg ss, .int .i64 t] => if f = 55 then (match objOf 1 hp k, takeK ks11 ss with
  | some x, some es => some (SX.split fs (eq0 (badE (canon fs x) (canons fs es) (canon fs t)) (.lit 0))
    (fun fs' => .ok ⟨.int .i64 (.lit 0), hp.put k ⟨true, .obj 1 [hearE (canon fs x) (canons fs es) (canon fs t)]⟩, fs'⟩)
    (fun fs' => .ok ⟨.int .i64 (badE (canon fs x) (canons fs es) (canon fs t)), hp.put k ⟨true, .obj 1 [canon fs x]⟩, fs'⟩))
  | _, _ => none) else none
 | _ => none
def spQual : SpcT := fun f args hp fs => match args with
 | [.ptr k 0, .int .i64 t] => if f = 85 then (match objOf 1 hp k with
  | some x => some (qualT hp (canon fs x) (canon fs t) 5 0 fs)
  | none => none)
  else if f = 47 then (match objOf 1 hp k with
  | some x => some (.ok ⟨.int .i64 (goneE (canon fs x) (canon fs t)), hp.put k ⟨true, .obj 1 [forgE (canon fs x) (canon fs t)]⟩, fs⟩)
  | none => none) else none
 | _ => none
def spNew : SpcT := fun f args hp fs => match args with
 | [.int .i64 a, .int .i64 b] => if f = 24 then some (isNewR (canon fs a) (canon fs b) hp fs) else none
 | _ => none
section
variable {ρ : Env} {w0 w : World} {M : Nat -> Prop} {gl : Gl} {β : Bm} {hp : Hp} {fs : Fs}
theorem obj_recs {φ : Nat -> Nat -> Prop} (ho : ObjsOk ρ w0 M β hp φ w) {k : Nat} {x : E} (hk : objOf 1 hp k = some x) : ObA (dec (x.ev ρ)) (β k).1 (φ k) w /\ code (dec (x.ev ρ)) = x.ev ρ := by
 have h := ho.has k _ 1 [x] (objOf_spec hk) rfl; obtain ⟨s, hs, h2⟩ : ∃ s, code s = x.ev ρ /\ ObA s (β k).1 (φ k) w := h; rw [<- hs, dec_code]; exact ⟨h2, rfl⟩
theorem stay_put {k : Nat} {c c' : Bx} (hk : hp.at k = some ⟨true, c⟩) : Stay hp (hp.put k ⟨true, c'⟩) := fun j b hj hr => by
 by_cases he : j = k
 ·rw [he, hk] at hj
  obtain rfl := sinj hj; cases hr
 ·rw [Hp.at_put_ne _ he]; exact hj
theorem turn_out {φ : Nat -> Nat -> Prop} {w' : World} {k : Nat} {x y : E} {s' : FS} (hh : Heap ρ w0 M β hp w) (ho : ObjsOk ρ w0 M β hp φ w) (hk : objOf 1 hp k = some x) (hT : Turns s' (β k).1 (φ k) w w') (hy : y.ev ρ = code s') : Heap ρ w0 M β (hp.put k ⟨true, .obj 1 [y]⟩) w' := by
 obtain ⟨φ', h1, h2, h3⟩ := hT; refine Heap.turn_ hh ho (objOf_spec hk) (φ' := φ') ?_ h2 h3; exact (⟨s', hy.symm, h1⟩ : ∃ s, code s = y.ev ρ /\ ObA s (β k).1 φ' w')
theorem spHear_ok (hf : Low ρ.fn) : SpecOkT Tryz.prog ρ w0 M gl spHear := fun f args hp fs t ht β w K hh hfs ha hg hK => by
 unfold spHear at ht; split at ht
 ·rename_i k ss tm
  split at ht
  ·rename_i hfe
   subst hfe; split at ht
   ·rename_i x es hx hes
    obtain rfl := sinj ht; obtain ⟨φ, ho⟩ := hh.objs; obtain ⟨hob, hc⟩ := obj_recs ho hx; obtain ⟨t1, t2, t3⟩ := takeK_spec (β := β) hes ha.2.1
    have hargs : SV.evs ρ β [.ptr k 0, .agg ss, .int .i64 tm] = [ptrV (β k).1, .agg (dsVals (E.evs ρ es)).toArray, .int .i64 (tm.ev ρ)] := by
     simp only [SV.evs, SV.ev, t1]; rfl
    rw [hargs]; have hl : (canons fs es).length = 11 := by unfold canons; rw [List.length_map, t3]; rfl
    have hbad : (badE (canon fs x) (canons fs es) (canon fs tm)).ev ρ = bad (dec (x.ev ρ)) (E.evs ρ es) (tm.ev ρ) := by rw [badE_ev hf hl, canons_ev hfs, canon_ev hfs, canon_ev hfs]
    obtain ⟨fs', hf', hc2⟩ := split_holds hfs hK; rcases hc2 with ⟨c, h2⟩ | ⟨c, h2⟩
    ·have hz : bad (dec (x.ev ρ)) (E.evs ρ es) (tm.ev ρ) = 0 := by rw [<- hbad]; exact (eqk_ev (ρ := ρ) .i64 _ (.lit 0)).1 c
     refine (hear_any hob t2 ha.2.2.1).mono fun e w' ⟨he, hT⟩ => ⟨_, ?_, h2 β w' (Ext.refl _ _) (Nat.le_refl _) (stay_put (objOf_spec hx)) (turn_out hh ho hx hT ?_) hf' (by show (Lit.int .i64 0).wf = true; decide)⟩
     ·rw [he, hz]; rfl
     ·rw [hearE_ev hf hl, canons_ev hfs, canon_ev hfs, canon_ev hfs]
    ·have hz : bad (dec (x.ev ρ)) (E.evs ρ es) (tm.ev ρ) ≠ 0 := fun e => (eqk_ev (ρ := ρ) .i64 (badE (canon fs x) (canons fs es) (canon fs tm)) (.lit 0)).2 (by rw [hbad, e]; rfl) c
     have hsame : hear (dec (x.ev ρ)) (E.evs ρ es) (tm.ev ρ) = dec (x.ev ρ) := by unfold hear; rw [if_neg hz]
     refine (hear_any hob t2 ha.2.2.1).mono fun e w' ⟨he, hT⟩ => ⟨_, ?_, h2 β w' (Ext.refl _ _) (Nat.le_refl _) (stay_put (objOf_spec hx)) (turn_out hh ho hx hT ?_) hf' ?_⟩
     ·rw [he]
      show Ending.returned (.int .i64 _) = Ending.returned (.int .i64 ((badE _ _ _).ev ρ)); rw [hbad]
     ·rw [canon_ev hfs, hsame, hc]
     ·show (Lit.int .i64 ((badE _ _ _).ev ρ)).wf = true
      rw [hbad]; unfold bad
      repeat' split
      all_goals decide
   ·cases ht
  ·cases ht
 ·cases ht
end
theorem qual_fits {s : FS} (hs : RsOk s) (t : Int) : ∀ d ∈ qual s t, fitsK ks11 d := fun d hd => by
 obtain ⟨r, hr, rfl⟩ := List.mem_map.1 hd; have hr' := (List.mem_filter.1 hr).1; exact (hs.msgs r hr' _ (lastM_mem (hs.some r hr').1)).fits
theorem qual_five {s : FS} (hs : RsOk s) (t : Int) : (qual s t).length <= 5 := by
 unfold qual quals; rw [List.length_map]; exact Nat.le_trans (List.length_filter_le _ _) hs.five
section
variable {ρ : Env} {w0 w : World} {M : Nat -> Prop} {gl : Gl} {β : Bm} {hp : Hp} {fs : Fs}
theorem qualT_run {hp : Hp} {x t : E} {L : Nat} {Q : Out -> Prop} (hlen : (qnE x t).ev ρ = (L : Int)) : ∀ (r m : Nat) (fs : Fs), SX.FsOk ρ fs -> m <= L -> L <= m + r -> (qualT hp x t r m fs).holds ρ Q -> ∃ fs', SX.FsOk ρ fs' /\ Q (resQ hp fs' x t L)
 | 0, m, fs, hf, h1, h2, h => by
  obtain rfl : L = m := by omega
  refine ⟨_, learn_ok hf ?_, h⟩; show (E.bin .eq .i64 (qnE x t) (litN L)).ev ρ ≠ 0 ↔ true = true; rw [eqk_ev, hlen]; exact ⟨fun _ => rfl, fun _ => rfl⟩
 | r + 1, m, fs, hf, h1, h2, h => by
  obtain ⟨fs', hf', h'⟩ := split_holds hf h; rcases h' with ⟨c, h'⟩ | ⟨c, h'⟩
  ·have e := (eqk_ev (ρ := ρ) .i64 (qnE x t) (litN m)).1 c
   rw [hlen] at e; have : L = m := Int.ofNat.inj e; subst this; exact ⟨fs', hf', h'⟩
  ·refine qualT_run hlen r (m + 1) fs' hf' ?_ (by omega) h'
   have : ¬ (qnE x t).ev ρ = (litN m).ev ρ := fun e => (eqk_ev (ρ := ρ) .i64 (qnE x t) (litN m)).2 e c
   rw [hlen] at this; have h3 : ¬ L = m := fun e => this (by rw [e]; rfl)
   omega
theorem setsF_ev {β : Bm} (h : Nat -> Nat -> E) (g : Nat -> List Int) : ∀ js : List Nat, (∀ i ∈ js, ∀ q, q < 11 -> (h i q).ev ρ = (g i).getD q 0) -> SV.evs ρ β (js.flatMap fun i => dsS (h i)) = ((js.map g).map dsVals).flatten
 | [], _ => rfl
 | i :: js, hq => by
  rw [List.flatMap_cons, evs_append, setsF_ev h g js fun j hj => hq j (lTl _ hj), dsS_ev (hq i (lHd ..))]
  rfl
theorem setsF_ok {n : Nat} (h : Nat -> Nat -> E) (g : Nat -> List Int) : ∀ js : List Nat, (∀ i ∈ js, ∀ q, q < 11 -> (h i q).ev ρ = (g i).getD q 0) -> (∀ i ∈ js, fitsK ks11 (g i)) -> SV.oks ρ n (js.flatMap fun i => dsS (h i))
 | [], _, _ => trivial
 | i :: js, hq, hf => by
  rw [List.flatMap_cons]; exact oks_append (dsS_ok (hq i (lHd ..)) (hf i (lHd ..))) (setsF_ok h g js (fun j hj => hq j (lTl _ hj)) fun j hj => hf j (lTl _ hj))
theorem setsF_len (h : Nat -> Nat -> E) : ∀ js : List Nat, (js.flatMap fun i => dsS (h i)).length = js.length * 11
 | [] => rfl
 | i :: js => by
  rw [List.flatMap_cons, List.length_append, setsF_len h js, List.length_cons]; show 11 + _ = _; omega
theorem newSets_out {q : List (List Int)} {w' : World} {e : Ending} {x t : E} {K : Value -> World -> Prop} (hh : Heap ρ w0 M β hp w) (hs : NewSets q w w' e) (hb : Below w.heap.size w w') (hfit : ∀ d ∈ q, fitsK ks11 d)
  (hq : ∀ i j, (qfE x t i j).ev ρ = (q.getD i []).getD j 0) {fs' : Fs} (hf' : SX.FsOk ρ fs')
  (hK : ∀ (β' : Bm) (w' : World), Ext hp.n β β' -> hp.n <= (resQ hp fs' x t q.length).hp.n -> Stay hp (resQ hp fs' x t q.length).hp -> Heap ρ w0 M β' (resQ hp fs' x t q.length).hp w' -> SX.FsOk ρ (resQ hp fs' x t q.length).fs -> (resQ hp fs' x t q.length).v.ok ρ (resQ hp fs' x t q.length).hp.n -> K ((resQ hp fs' x t q.length).v.ev ρ β') w') :
  ∃ v, e = .returned v /\ K v w' := by
 rcases hs with ⟨rfl, rfl⟩ | ⟨blk, cap, rest, h1, rfl, h2, h3, h4⟩
 ·exact ⟨_, rfl, hK β w' (Ext.refl _ _) (Nat.le_refl _) (Stay.refl _) (hh.below hb) hf' trivial⟩
 ·obtain ⟨m, hm⟩ : ∃ m, q.length = m + 1 := ⟨q.length - 1, by have := List.length_pos_iff.2 h1; omega⟩
  rw [hm] at hK
  have hev : ∀ β', SV.evs ρ β' ((List.range (m + 1)).flatMap fun i => dsS (qfE x t i)) = (q.map dsVals).flatten := fun β' => by
   rw [setsF_ev (qfE x t) (fun i => q.getD i []) _ fun i _ j _ => hq i j]
   congr 2; apply List.ext_getElem?; intro i
   by_cases hi : i < q.length
   ·rw [lMp, lRa (by omega)]
    simp [gDe, lGe hi]
   ·rw [lNo (by simp; omega), lNo (by omega)]
  have hok : SV.oks ρ (hp.n + 1) ((List.range (m + 1)).flatMap fun i => dsS (qfE x t i)) := setsF_ok (qfE x t) (fun i => q.getD i []) _ (fun i _ j _ => hq i j) fun i hi => hfit _ (getD_mem (by have := mRa.1 hi; omega))
  have hpush : Heap ρ w0 M (upd β hp.n (blk, cap)) (hp.push ⟨true, .cells ((List.range (m + 1)).flatMap fun i => dsS (qfE x t i)) 46 12⟩) w' :=
   (hh.below hb).push (fun j b' hj hv e => by
    have := Bx.lies_lt (hh.lies j b' hj) hv; simp only at e; omega) (.inr (Nat.le_trans hh.kept.size h2)) hok ⟨rest, by rw [hev]; exact h3, by rw [setsF_len, List.length_range, <- hm]; exact h4⟩ (hh.objs_new hb h2)
  refine ⟨_, rfl, ?_⟩; have := hK (upd β hp.n (blk, cap)) w' (upd_ext _ _ _) (show hp.n <= hp.n + 1 from Nat.le_succ _) (Stay.push _ _) hpush hf' (show hp.n < hp.n + 1 from Nat.lt_succ_self _)
  have e2 : SV.ev ρ (upd β hp.n (blk, cap)) (SV.slice hp.n 0 (m + 1) none) = slV blk q.length cap := by
   show Value.slice (some ⟨(upd β hp.n (blk, cap) hp.n).1, 0, none⟩) (m + 1) (Option.getD none (upd β hp.n (blk, cap) hp.n).2) = _; rw [upd_same, hm]; rfl
  rw [<- e2]; exact this
theorem spQual_ok (hf : Low ρ.fn) : SpecOkT Tryz.prog ρ w0 M gl spQual := fun f args hp fs t ht β w K hh hfs ha hg hK => by
 unfold spQual at ht; split at ht
 ·rename_i k tm
  split at ht
  ·rename_i hfe
   subst hfe; split at ht
   ·rename_i x hx
    obtain rfl := sinj ht; obtain ⟨φ, ho⟩ := hh.objs; obtain ⟨hob, hc⟩ := obj_recs ho hx; have hqn : (qnE (canon fs x) (canon fs tm)).ev ρ = ((qual (dec (x.ev ρ)) (tm.ev ρ)).length : Int) := by rw [qnE_ev hf, canon_ev hfs, canon_ev hfs]
    obtain ⟨fs', hf', hQ⟩ := qualT_run hqn 5 0 fs hfs (Nat.zero_le _) (by have := qual_five hob.1 (tm.ev ρ); omega) hK
    exact (qual_any hob ha.2.1).mono fun e w' ⟨hs, hb⟩ => newSets_out hh hs hb (qual_fits hob.1 _) (fun i j => by rw [qfE_ev hf, canon_ev hfs, canon_ev hfs]) hf' hQ
   ·cases ht
  ·split at ht
   ·rename_i hfe
    subst hfe; split at ht
    ·rename_i x hx
     obtain rfl := sinj ht; obtain ⟨φ, ho⟩ := hh.objs; obtain ⟨hob, hc⟩ := obj_recs ho hx; have h5 := hob.1.five; refine (forget_any hob ha.2.1).mono fun e w' ⟨he, hT⟩ => ⟨_, ?_, hK β w' (Ext.refl _ _) (Nat.le_refl _) (stay_put (objOf_spec hx)) (turn_out hh ho hx hT ?_) hfs ?_⟩
     ·rw [he]
      show Ending.returned (.int .i64 _) = Ending.returned (.int .i64 ((goneE _ _).ev ρ)); rw [goneE_ev hf, canon_ev hfs, canon_ev hfs]
     ·rw [forgE_ev hf, canon_ev hfs, canon_ev hfs]
     ·show (Lit.int .i64 ((goneE _ _).ev ρ)).wf = true
      rw [goneE_ev hf, canon_ev hfs, canon_ev hfs]; unfold gone; exact wfI (by omega)
    ·cases ht
   ·cases ht
 ·cases ht
def badNew (a b : Int) : Prop := a < 1 \/ maxSim < a \/ b < 1 \/ 8 < b
def nilF (j : Nat) : Fs := match j with
 | 0 => [(lt0 (.var 12) (.lit 1), true)]
 | 1 => [(lt0 (.var 12) (.lit 1), false), (lt0 (.lit 1125899906842624) (.var 12), true)]
 | 2 => [(lt0 (.var 12) (.lit 1), false), (lt0 (.lit 1125899906842624) (.var 12), false), (lt0 (.var 13) (.lit 1), true)]
 | _ => [(lt0 (.var 12) (.lit 1), false), (lt0 (.lit 1125899906842624) (.var 12), false), (lt0 (.var 13) (.lit 1), false), (lt0 (.lit 8) (.var 13), true)]
def isNilP (o : Out) : Bool := match o.v with
 | .raw (.pointer none) => true
 | _ => false
def nilB (j : Nat) : Bool := (callG Tryz.prog [] okF noSpec noKeep 80 30 24 [.int .i64 (.var 12), .int .i64 (.var 13)] .nil (nilF j)).all isNilP
theorem nil_runs : upTo 3 nilB = true := by kernel_rfl
theorem new_nil {win need : Int} (h1 : (Lit.int .i64 win).wf = true) (h2 : (Lit.int .i64 need).wf = true) (h : badNew win need) : Calls Tryz.prog 24 #[.int .i64 win, .int .i64 need] w fun e w' => e = .returned (.pointer none) /\ Below w.heap.size w w' := by
 have go : ∀ j, j <= 3 -> SX.FsOk (envR (fun _ _ _ => 0) d0 0 win need 0 [] [] []) (nilF j) -> Calls Tryz.prog 24 #[.int .i64 win, .int .i64 need] w fun e w' => e = .returned (.pointer none) /\ Below w.heap.size w w' := fun j hj hF => by
  have hr := upTo_spec nil_runs hj
  refine ((callG_run (gl := []) (keep := noKeep) (fuel := 80) mixed okF_ok noSpec_ok 30 24 [.int .i64 (.var 12), .int .i64 (.var 13)] .nil (nilF j) β0 w
   (fun x w' => x = .pointer none /\ Below w.heap.size w w') (heap_nil _ _ (fun _ => False) _) hF ⟨h1, h2, trivial⟩ (fun _ h => by cases h)
   (T.holds_mono (fun o ho β' w' hx hl hst hh hf _ => ?_) (T.all_holds hr))).2).mono fun x w' ⟨y, he, h1, h2⟩ => ⟨by rw [he, h1], h2⟩
  unfold isNilP at ho; split at ho
  ·rename_i hv
   exact ⟨by rw [hv]; rfl, hh.kept.to_below⟩
  ·cases ho
 have e12 : (E.var 12).ev (envR (fun _ _ _ => 0) d0 0 win need 0 [] [] []) = win := rfl
 have e13 : (E.var 13).ev (envR (fun _ _ _ => 0) d0 0 win need 0 [] [] []) = need := rfl
 have no : ∀ {p : Prop}, ¬ p -> (p ↔ false = true) := fun hp => ⟨fun h => absurd h hp, fun h => Bool.noConfusion h⟩
 have yes : ∀ {p : Prop}, p -> (p ↔ true = true) := fun hp => ⟨fun _ => rfl, fun _ => hp⟩
 unfold badNew maxSim at h
 by_cases c0 : win < 1
 ·refine go 0 (by decide) ?_
  show SX.FsOk _ [(lt0 (.var 12) (.lit 1), true)]; rw [fsOk_cons, fsOk_nil, lt0_ev, e12, lit_ev]; exact ⟨yes c0, trivial⟩
 ·by_cases c1 : 1125899906842624 < win
  ·refine go 1 (by decide) ?_
   show SX.FsOk _ [(lt0 (.var 12) (.lit 1), false), (lt0 (.lit 1125899906842624) (.var 12), true)]; rw [fsOk_cons, fsOk_cons, fsOk_nil, lt0_ev, lt0_ev, e12, lit_ev, lit_ev]; exact ⟨no c0, yes c1, trivial⟩
  ·by_cases c2 : need < 1
   ·refine go 2 (by decide) ?_
    show SX.FsOk _ [(lt0 (.var 12) (.lit 1), false), (lt0 (.lit 1125899906842624) (.var 12), false), (lt0 (.var 13) (.lit 1), true)]; rw [fsOk_cons, fsOk_cons, fsOk_cons, fsOk_nil, lt0_ev, lt0_ev, lt0_ev, e12, e13, lit_ev, lit_ev]; exact ⟨no c0, no c1, yes c2, trivial⟩
   ·refine go 3 (by decide) ?_
    show SX.FsOk _ [(lt0 (.var 12) (.lit 1), false), (lt0 (.lit 1125899906842624) (.var 12), false), (lt0 (.var 13) (.lit 1), false), (lt0 (.lit 8) (.var 13), true)]; rw [fsOk_cons, fsOk_cons, fsOk_cons, fsOk_cons, fsOk_nil, lt0_ev, lt0_ev, lt0_ev, lt0_ev, e12, e13, lit_ev, lit_ev, lit_ev]; exact ⟨no c0, no c1, no c2, yes (by omega), trivial⟩
theorem spNew_ok (hf : Low ρ.fn) : SpecOkT Tryz.prog ρ w0 M gl spNew := fun f args hp fs t ht β w K hh hfs ha hg hK => by
 unfold spNew at ht; split at ht
 ·rename_i a b
  split at ht
  ·rename_i hfe
   subst hfe; obtain rfl := sinj ht; have ca := canon_ev hfs a; have cb := canon_ev hfs b
   have hnil : badNew (a.ev ρ) (b.ev ρ) -> (∀ (β' : Bm) (w' : World), Ext hp.n β β' -> hp.n <= hp.n -> Stay hp hp -> Heap ρ w0 M β' hp w' -> K (.pointer none) w') -> Calls Tryz.prog 24 (SV.evs ρ β [.int .i64 a, .int .i64 b]).toArray w fun e w' => ∃ v, e = .returned v /\ K v w' := fun hb hk =>
    (new_nil ha.1 ha.2.1 hb).mono fun e w' ⟨he, hb⟩ => ⟨_, he, hk β w' (Ext.refl _ _) (Nat.le_refl _) (Stay.refl _) (hh.below hb)⟩
   unfold isNewR at hK; obtain ⟨fs1, hf1, h1⟩ := split_holds hfs hK; rcases h1 with ⟨c1, h1⟩ | ⟨c1, h1⟩
   ·rw [lt0_ev, ca, lit_ev] at c1
    exact hnil (.inl c1) fun β' w' p1 p2 p3 p4 => h1 β' w' p1 p2 p3 p4 hf1 trivial
   have c1' : ¬ a.ev ρ < 1 := fun e => (lt0_ev (ρ := ρ) (canon fs a) (.lit 1)).2 (by rw [ca]; exact e) c1
   obtain ⟨fs2, hf2, h2⟩ := split_holds hf1 h1; rcases h2 with ⟨c2, h2⟩ | ⟨c2, h2⟩
   ·rw [lt0_ev, ca, lit_ev] at c2
    exact hnil (.inr (.inl c2)) fun β' w' p1 p2 p3 p4 => h2 β' w' p1 p2 p3 p4 hf2 trivial
   have c2' : ¬ 1125899906842624 < a.ev ρ := fun e => (lt0_ev (ρ := ρ) (.lit 1125899906842624) (canon fs a)).2 (by rw [ca]; exact e) c2
   obtain ⟨fs3, hf3, h3⟩ := split_holds hf2 h2; rcases h3 with ⟨c3, h3⟩ | ⟨c3, h3⟩
   ·rw [lt0_ev, cb, lit_ev] at c3
    exact hnil (.inr (.inr (.inl c3))) fun β' w' p1 p2 p3 p4 => h3 β' w' p1 p2 p3 p4 hf3 trivial
   have c3' : ¬ b.ev ρ < 1 := fun e => (lt0_ev (ρ := ρ) (canon fs b) (.lit 1)).2 (by rw [cb]; exact e) c3
   obtain ⟨fs4, hf4, h4⟩ := split_holds hf3 h3; rcases h4 with ⟨c4, h4⟩ | ⟨c4, h4⟩
   ·rw [lt0_ev, cb, lit_ev] at c4
    exact hnil (.inr (.inr (.inr c4))) fun β' w' p1 p2 p3 p4 => h4 β' w' p1 p2 p3 p4 hf4 trivial
   have c4' : ¬ 8 < b.ev ρ := fun e => (lt0_ev (ρ := ρ) (.lit 8) (canon fs b)).2 (by rw [cb]; exact e) c4
   refine (new_any (win := a.ev ρ) (need := b.ev ρ) (by unfold maxSim; omega) (by omega)).mono fun e w' ⟨blk, φ', he, hob, hφ, hb⟩ => ⟨_, he, ?_⟩
   have hev : (newE (canon fs a) (canon fs b)).ev ρ = code (newS (a.ev ρ) (b.ev ρ)) := by rw [newE_ev hf, ca, cb]
   have hob' : Ob 1 (E.evs ρ [newE (canon fs a) (canon fs b)]) blk φ' w' := (⟨_, hev.symm, hob⟩ : ∃ s, code s = (newE (canon fs a) (canon fs b)).ev ρ /\ ObA s blk φ' w'); have := h4 (upd β hp.n (blk, 0)) w' (upd_ext _ _ _) (by simp) (Stay.push _ _) (Heap.newObj hh hb hob' hφ) hf4 (by show hp.n < _; simp)
   have e2 : SV.ev ρ (upd β hp.n (blk, 0)) (SV.ptr hp.n 0) = ptrV blk := by
    show Value.pointer (some ⟨(upd β hp.n (blk, 0) hp.n).1, 0, none⟩) = _; rw [upd_same]; rfl
   rw [e2] at this; exact this
  ·cases ht
 ·cases ht
end
def spF : SpcT := orT spHear (orT spQual spNew)
theorem spF_ok {ρ : Env} {w0 : World} {M : Nat -> Prop} {gl : Gl} (hf : Low ρ.fn) : SpecOkT Tryz.prog ρ w0 M gl spF := orT_ok (spHear_ok hf) (orT_ok (spQual_ok hf) (spNew_ok hf))
end
section
open Go Go.ChangeShapes Go.WideShapes Go.ChangeAt Go.RowKit SX
def cellsF : List Value := [.int .i64 0, .int .i64 1, .int .i64 2, .int .i64 3, .int .i64 4, .int .i64 5, .int .i64 6, .int .i64 7, .int .i64 8, .int .i64 9, .int .i64 10, .int .i64 7, .int .i64 10, .int .i64 8]
def tabsT : Tabs := [(1, cellsF)]
theorem tabsT_nd : (tabsT.map (·.1)).Nodup := by decide
def laidL : List (String × DataW Unit) := [("timesync/port.table", Rows.laid_timesync_port_table), ("timesync/dataset.fields", Rows.laid_timesync_dataset_fields)]
theorem own : ownKnob Tryz.prog.godebug = none := by kernel_rfl
theorem laidOut : laidOutB Tryz.prog = true := by kernel_rfl
theorem gTab : Tryz.prog.globalNamed "timesync/dataset.fields" = some 1 := by kernel_rfl
theorem tTab : (Tryz.prog.globals[1]?).map (·.type) = some 173 := by kernel_rfl
theorem okTab : arrOK Tryz.prog 3 173 = true := by kernel_rfl
theorem gTabP : Tryz.prog.globalNamed "timesync/port.table" = some 0 := by kernel_rfl
theorem tTabP : (Tryz.prog.globals[0]?).map (·.type) = some 144 := by kernel_rfl
theorem okTabP : arrOK Tryz.prog 3 144 = true := by kernel_rfl
def cellsP : List Value := (flatD (H := Unit) Rows.laid_timesync_port_table).getD []
theorem dTabP : flatD (H := Unit) Rows.laid_timesync_port_table = some cellsP := by kernel_rfl
def tabs2 : Tabs := [(1, cellsF), (0, cellsP)]
theorem tabs2_nd : (tabs2.map (·.1)).Nodup := by decide
theorem tabs_one {w : World} (h : TabsIn tabs2 w) : TabsIn tabsT w := fun p hp => h p (by
 obtain rfl : p = (1, cellsF) := by simpa [tabsT] using hp
 exact lHd ..)
theorem dTab : flatD (H := Unit) Rows.laid_timesync_dataset_fields = some cellsF := by kernel_rfl
theorem tabs_of_laid {W : World} (h : laidMetH Tryz.prog laidL W) : TabsIn tabs2 W := by
 rw [MakeChecks.laidMetH_plain _ _ _ (by kernel_rfl)] at h
 intro p hp i v hv; simp only [tabs2, mCo, List.not_mem_nil, or_false] at hp; rcases hp with rfl | rfl
 ·exact laid_cell h (lTl _ (lHd ..)) gTab tTab okTab dTab i v hv
 ·exact laid_cell h (lHd ..) gTabP tTabP okTabP dTabP i v hv
theorem door_met (os : Os) (args : Array Value) : laidMetH Tryz.prog laidL ((World.doorLaid Tryz.prog 400 os).forCall (fun _ _ => 0) ⟨#[], args, []⟩).memory :=
 laidMetH_of_parts3 (fuel := 8) (laidMet_of_run' 8 (by kernel_rfl) (by kernel_rfl)) (by kernel_rfl) (by kernel_rfl)
theorem awake_tree : ((callF Tryz.prog (tabGl tabs2 0) okF (fun _ _ => none) noKeep 200 60 5 [] (tabHp tabs2) []).all isTrue) = true := by kernel_rfl
theorem awake_sx (w : World) (h : TabsIn tabs2 w) : Calls Tryz.prog 5 #[] w fun e w' => e = .returned (.bool true) /\ Below w.heap.size w w' :=
 pays_tab (ρ := envOf (fun _ _ _ => 0) []) (args := []) tabs2 tabs2_nd h mixed okF_ok (sums_none _ _ _ _) trivial rfl (T.all_holds awake_tree)
def i1 : Sh := .one (.int .i64)
def ptSh : Sh := .agg [.int .i64, .int .i64, .int .i64, .int .i64, .int .u64, .int .i64, .int .i64, .int .i64, .int .i64, .int .i64, .int .u64, .int .i64, .int .i64, .int .i64, .int .i64, .int .i64, .int .i64, .int .i64, .int .u64, .int .i64, .int .i64]
def sums41 : Sums := sumsA 5 []
end
section
open Go Go.ChangeShapes Go.WideShapes Go.ChangeAt Go.RowKit SX Frm Frn
def dsSh : Sh := .agg [.int .i64, .int .i64, .int .i64, .int .i64, .int .i64, .int .u64, .int .i64, .int .u64, .int .i64, .int .u64, .int .i64]
def dsLk : List Lk := [.int .i64, .int .i64, .int .i64, .int .i64, .int .i64, .int .u64, .int .i64, .int .u64, .int .i64, .int .u64, .int .i64]
end
section
open Go Go.RowKit SX Frm Frn
theorem ok_ds {d : List Int} (h : fitsK ks11 d) : DsLaw.Ok (dsOf d) := by
 obtain ⟨h0, _, h1, _, h2, _, h3, _, h4, _, h5, _, h6, _, h7, _, h8, _, h9, _, h10, _⟩ := h
 have i : ∀ n : Int, (Lit.int .i64 n).wf = true -> DsLaw.I64 n := fun n h => by
  have := (wf_iff .i64 n).1 h; unfold DsLaw.I64
  simpa [IntKind.min, IntKind.max, IntKind.bits, IntKind.signed] using this
 have u : ∀ n : Int, (Lit.int .u64 n).wf = true -> DsLaw.U64 n := fun n h => by
  have := (wf_iff .u64 n).1 h; unfold DsLaw.U64
  simpa [IntKind.min, IntKind.max, IntKind.bits, IntKind.signed] using this
 exact ⟨i _ h0, i _ h1, i _ h2, i _ h3, i _ h4, u _ h5, i _ h6, u _ h7, i _ h8, u _ h9, i _ h10⟩
theorem fields_tabs {w : World} (h : TabsIn tabs2 w) : Fields w := by
 intro i hi
 have hc : cellsF[i]? = some (.int .i64 (DsLaw.F i : Nat)) := by
  match i, hi with
  | 0, _ => rfl | 1, _ => rfl | 2, _ => rfl | 3, _ => rfl | 4, _ => rfl | 5, _ => rfl | 6, _ => rfl | 7, _ => rfl | 8, _ => rfl | 9, _ => rfl | 10, _ => rfl | 11, _ => rfl | 12, _ => rfl | 13, _ => rfl
  | n + 14, h => exact absurd h (by omega)
 exact h _ (lHd ..) i _ hc
def spLess : Spc := fun f args hp fs => match args with
 | [.agg a, .agg b] => if f = 89 then (match takeK ks11 a, takeK ks11 b with
  | some x, some y => some ⟨.bool (lessE (canons fs x) (canons fs y)), hp, fs⟩
  | _, _ => none) else none
 | _ => none
theorem spLess_ok {ρ : Env} {w0 : World} {M : Nat -> Prop} {gl : Gl} (hf : Low ρ.fn) (hT : ∀ w', Kept w0 M w' -> TabsIn tabs2 w') : SpecOk Tryz.prog ρ w0 M gl spLess := fun f args hp fs o h β w hh hfs ha hg => by
 unfold spLess at h; split at h
 ·rename_i a b
  split at h
  ·rename_i hfe
   subst hfe; split at h
   ·rename_i x y hx hy
    obtain rfl := sinj h; obtain ⟨a1, a2, a3⟩ := takeK_spec (β := β) hx ha.1; obtain ⟨b1, b2, b3⟩ := takeK_spec (β := β) hy ha.2.1
    have hargs : SV.evs ρ β [.agg a, .agg b] = [.agg (dsVals (E.evs ρ x)).toArray, .agg (dsVals (E.evs ρ y)).toArray] := by
     simp only [SV.evs, SV.ev, a1, b1]; rfl
    rw [hargs]; refine (less_any (dsOf (E.evs ρ x)) (dsOf (E.evs ρ y)) (ok_ds a2) (ok_ds b2) w (fields_tabs (hT w hh.kept))).mono fun e w' ⟨he, hb⟩ => ⟨β, Ext.refl _ _, Nat.le_refl _, Stay.refl _, hh.below hb, hfs, trivial, ?_⟩
    rw [he]; show Ending.returned (.bool (decide (DsLaw.lt (dsOf (E.evs ρ x)) (dsOf (E.evs ρ y))))) = Ending.returned (.bool (decide ((lessE _ _).ev ρ ≠ 0))); congr 2; have hl : ∀ (z : List E) (h : z.length = ks11.length), (canons fs z).length = 11 := fun z h => by unfold canons; rw [List.length_map, h]; rfl
    have := lessE_ev hf (hl x a3) (hl y b3); rw [canons_ev hfs, canons_ev hfs] at this; have e2 : ltB (E.evs ρ x) (E.evs ρ y) = decide (DsLaw.lt (dsOf (E.evs ρ x)) (dsOf (E.evs ρ y))) := rfl
    by_cases hl : DsLaw.lt (dsOf (E.evs ρ x)) (dsOf (E.evs ρ y))
    ·rw [decide_eq_true hl, decide_eq_true (this.2 (by rw [e2]; exact decide_eq_true hl))]
    ·rw [decide_eq_false hl, decide_eq_false (fun h => hl (of_decide_eq_true (e2 ▸ this.1 h)))]
   ·cases h
  ·cases h
 ·cases h
def spBin : SpcT := orT spF (ofSpc spLess)
def bestHp : Hp := ⟨1, fun _ => ⟨true, .obj 1 [.var 0]⟩⟩
def qfs (i : Nat) : List E := (List.range 11).map fun j => qfE (.var 0) (.var 1) i j
def bestF (fs : Fs) : Nat -> List Nat -> Option Nat
 | b, [] => some b
 | b, i :: l => match decideE fs (lessE (qfs i) (qfs b)) with
  | some true => bestF fs i l
  | some false => bestF fs b l
  | none => none
def numQ (fs : Fs) : Option Nat := (List.range 6).find? fun m => decideE fs (eq0 (qnE (.var 0) (.var 1)) (litN m)) == some true
def zeroS : List SV := dsS fun _ => .lit 0
def bestEnd (o : Out) : Bool :=
 (match o.hp.at 0 with
  | some ⟨true, .obj 1 [.var 0]⟩ => true
  | _ => false) && (match numQ o.fs with
  | some 0 => SV.fit o.fs (fun i => .var i) id o.hp.n (.tuple [.agg zeroS, .bool (.lit 0)]) o.v
  | some (m + 1) => (match bestF o.fs 0 (List.range' 1 m) with
   | some i => SV.fit o.fs (fun i => .var i) id o.hp.n (.tuple [.agg (dsS (qfE (.var 0) (.var 1) i)), .bool (.lit 1)]) o.v
   | none => false)
  | none => false)
def bestT : T Out := callH Tryz.prog [] okF spBin noKeep 80 30 48 [.ptr 0 0, .int .i64 (.var 1)] bestHp [rngV 1]
theorem best_run : bestT.all bestEnd = true := by kernel_rfl
def sameE (a b : E) : E := .bin .eq .u64 a b
section
variable {ρ : Env}
theorem fsOk_one {c : E} {b : Bool} : SX.FsOk ρ [(c, b)] ↔ (c.ev ρ ≠ 0 ↔ b = true) := by rw [fsOk_cons, fsOk_nil]; exact ⟨fun h => h.1, fun h => ⟨h, trivial⟩⟩
end
def bestV (q : List (List Int)) : Value := .tuple #[.agg (dsVals (bestD q)).toArray, .bool (decide (q ≠ []))]
theorem bestF_spec {ρ : Env} (hf0 : Low ρ.fn) {fs : Fs} (hf : SX.FsOk ρ fs) {q : List (List Int)} (hq : ∀ i, i < q.length -> E.evs ρ (qfs i) = q.getD i []) : ∀ (l : List Nat) (b r : Nat), b < q.length -> (∀ i ∈ l, i < q.length) -> bestF fs b l = some r ->
  r = bestI (fun i b => ltB (q.getD i []) (q.getD b [])) b l /\ r < q.length
 | [], b, r, hb, _, h => by obtain rfl := sinj h; exact ⟨rfl, hb⟩
 | i :: l, b, r, hb, hl, h => by
  have hi := hl i (lHd ..); have key := lessE_ev (ρ := ρ) hf0 (a := qfs i) (b := qfs b) rfl rfl; rw [hq i hi, hq b hb] at key; unfold bestF at h; split at h
  ·rename_i hd
   have h1 := of_decide_eq_true (decideE_spec hf hd); have h2 : ltB (q.getD i []) (q.getD b []) = true := key.1 h1; have := bestF_spec hf0 hf hq l i r hi (fun j hj => hl j (lTl _ hj)) h
   simp only [bestI, h2, if_true]; exact this
  ·rename_i hd
   have h1 := of_decide_eq_false (decideE_spec hf hd)
   have h2 : ltB (q.getD i []) (q.getD b []) = false := by
    cases hz : ltB (q.getD i []) (q.getD b []) with
    | false => rfl
    | true => exact absurd (key.2 hz) h1
   have := bestF_spec hf0 hf hq l b r hb (fun j hj => hl j (lTl _ hj)) h
   simp only [bestI, h2, Bool.false_eq_true, if_false]; exact this
  ·cases h
theorem spBin_ok {ρ : Env} {w0 : World} {M : Nat -> Prop} {gl : Gl} (hf : Low ρ.fn) (hT : ∀ w', Kept w0 M w' -> TabsIn tabs2 w') : SpecOkT Tryz.prog ρ w0 M gl spBin := orT_ok (spF_ok hf) (ofSpc_ok (spLess_ok hf hT))
section
variable {s : FS} {b : Nat} {φ : Nat -> Prop} {w w' : World}
theorem best_any (h : ObA s b φ w) {t : Int} (ht : (Lit.int .i64 t).wf = true) (hT : ∀ w', Kept w φ w' -> TabsIn tabs2 w') :
  Calls Tryz.prog 48 #[ptrV b, .int .i64 t] w fun e w' => e = .returned (bestV (qual s t)) /\ Turns s b φ w w' := by
 have hOb : Ob 1 [code s] b φ w := (⟨s, rfl, h⟩ : ∃ s', code s' = code s /\ ObA s' b φ w)
 have key0 : ∀ (k : Nat) (x : Box), bestHp.at k = some x -> k = 0 /\ x = ⟨true, .obj 1 [.var 0]⟩ := fun k x hk => by
  obtain ⟨h1, h2⟩ := Hp.at_some.1 hk; exact ⟨by have : k < 1 := h1; omega, h2.symm⟩
 have hh : Heap (envOf FN [code s, t]) w φ (fun _ => (b, 0)) bestHp w := by
  refine ⟨fun k x hk => ?_, fun j k x y hj hk hx _ _ => ?_, fun k x hk _ hx => ?_, fun k x hk => ?_, Kept.refl w φ, fun k x hk hx => ?_, fun _ => φ, fun k x q es hk e => ?_, fun k x hk _ i hi => .inl hi, fun j k x y hj hk _ hjk => ?_⟩
  ·obtain ⟨rfl, rfl⟩ := key0 k x hk; trivial
  ·obtain ⟨rfl, rfl⟩ := key0 j x hj; cases hx
  ·obtain ⟨rfl, rfl⟩ := key0 k x hk; cases hx
  ·obtain ⟨rfl, rfl⟩ := key0 k x hk; trivial
  ·obtain ⟨rfl, rfl⟩ := key0 k x hk; cases hx
  ·obtain ⟨rfl, rfl⟩ := key0 k x hk
   cases e; exact hOb
  ·exact absurd ((key0 j x hj).1.trans (key0 k y hk).1.symm) hjk
 have hF : SX.FsOk (envOf FN [code s, t]) [rngV 1] := by
  rw [fsOk_one]; have := (wf_iff .i64 t).1 ht; show (if IntKind.i64.min <= t /\ t <= IntKind.i64.max then (1 : Int) else 0) ≠ 0 ↔ _
  rw [if_pos this]; exact ⟨fun _ => rfl, fun _ => by decide⟩
 have hB := best_run; unfold bestT at hB; have ha : SV.oks (envOf FN [code s, t]) bestHp.n [.ptr 0 0, .int .i64 (.var 1)] := ⟨Nat.lt_succ_self 0, ht, trivial⟩; have hC := callH_run (gl := []) (keep := noKeep) (fuel := 80) mixed okF_ok (spBin_ok (ρ := envOf FN [code s, t]) (w0 := w) (M := φ) (gl := []) (fun _ _ => rfl) hT) 30
 have hD := hC 48 [.ptr 0 0, .int .i64 (.var 1)] bestHp [rngV 1] (fun _ => (b, 0)) w (fun x w' => x = bestV (qual s t) /\ Turns s b φ w w') hh hF ha (fun _ h => by cases h)
 have ea : SV.evs (envOf FN [code s, t]) (fun _ => (b, 0)) [.ptr 0 0, .int .i64 (.var 1)] = [ptrV b, .int .i64 t] := rfl
 rw [ea] at hD; refine (hD (T.holds_mono (fun o ho β' w' hx hl hst hh' hf _ => ?_) (T.all_holds hB))).2.mono fun x w' ⟨y, he, h1, h2⟩ => ⟨by rw [he, h1], h2⟩
 unfold bestEnd at ho; rw [bAnd] at ho; obtain ⟨o1, o2⟩ := ho
 have hturn : Turns s b φ w w' := by
  split at o1
  ·rename_i hat
   obtain ⟨φ2, ho2⟩ := hh'.objs; have hb0 : β' 0 = (b, 0) := hx 0 (by decide)
   have h1 := ho2.has 0 _ 1 [.var 0] hat rfl; obtain ⟨s', hs', h2⟩ : ∃ s', code s' = code s /\ ObA s' (β' 0).1 (φ2 0) w' := h1; obtain rfl := code_inj hs'; rw [hb0] at h2; exact ⟨φ2 0, h2, fun i hi => ho2.own 0 _ hat rfl i hi, hh'.kept⟩
  ·cases o1
 refine ⟨?_, hturn⟩; have hfit := qual_fits h.1 t
 have hqn : ∀ m, numQ o.fs = some m -> (qual s t).length = m := fun m hm => by
  have h1 := List.find?_some hm; have h2 : decideE o.fs (eq0 (qnE (.var 0) (.var 1)) (litN m)) = some true := by simpa using h1
  have h3 := (eqk_ev (ρ := envOf FN [code s, t]) .i64 (qnE (.var 0) (.var 1)) (litN m)).1 (of_decide_eq_true (decideE_spec hf h2)); rw [qnE_ev (fun _ _ => rfl)] at h3
  have h4 : ((qual (dec (code s)) t).length : Int) = m := h3; rw [dec_code] at h4; omega
 have hqf : ∀ i j, (qfE (.var 0) (.var 1) i j).ev (envOf FN [code s, t]) = ((qual s t).getD i []).getD j 0 := fun i j => by
  rw [qfE_ev (fun _ _ => rfl)]
  show ((qual (dec (code s)) t).getD i []).getD j 0 = _; rw [dec_code]
 have hq : ∀ i, i < (qual s t).length -> E.evs (envOf FN [code s, t]) (qfs i) = (qual s t).getD i [] := fun i hi => by
  have hlen : ((qual s t).getD i []).length = 11 := fits_len (hfit _ (getD_mem hi))
  have e1 : ∀ js : List Nat, E.evs (envOf FN [code s, t]) (js.map fun j => qfE (.var 0) (.var 1) i j) = js.map fun j => ((qual s t).getD i []).getD j 0 := fun js => by
   induction js with
   | nil => rfl
   | cons j js ih => simp only [List.map_cons, E.evs, ih, hqf]
  unfold qfs; rw [e1, range11_self hlen]
 split at o2
 ·rename_i hm
  have h0 : qual s t = [] := List.length_eq_zero_iff.1 (hqn 0 hm); obtain ⟨e1, _⟩ := SV.fit_spec (β := β') (m := o.hp.n) hf _ _ o2; rw [e1, envSub_var, h0]; rfl
 ·rename_i m hm
  have hm' := hqn (m + 1) hm; split at o2
  ·rename_i i hi
   obtain ⟨e1, _⟩ := SV.fit_spec (β := β') (m := o.hp.n) hf _ _ o2; obtain ⟨b1, b2⟩ := bestF_spec (fun _ _ => rfl) hf hq (List.range' 1 m) 0 i (by omega) (fun j hj => by have := List.mem_range'.1 hj; omega) hi
   have hne : qual s t ≠ [] := fun e => by rw [e] at hm'; cases hm'
   have hbd : bestD (qual s t) = (qual s t).getD i [] := by
    unfold bestD bestK; rw [if_neg hne, hm', b1]; rfl
   rw [e1, envSub_var]; show Value.tuple #[.agg (SV.evs _ _ (dsS (qfE (.var 0) (.var 1) i))).toArray, .bool true] = _; rw [dsS_ev fun j hj => hqf i j]
   unfold bestV; rw [hbd, decide_eq_true hne]
  ·cases o2
 ·cases o2
end
theorem Kept.nest {w0 w w' : World} {M φ : Nat -> Prop} (h : Kept w0 M w) (hφ : ∀ i, φ i -> M i \/ w0.heap.size <= i) (h' : Kept w φ w') : Kept w0 M w' :=
 ⟨h'.os.trans h.os, h'.tape.trans h.tape, h'.output.trans h.output, Nat.le_trans h.size h'.size, fun i hi hn => (h'.block i (Nat.lt_of_lt_of_le hi h.size) fun hp => (hφ i hp).elim hn fun hl => by omega).trans (h.block i hi hn)⟩
def spBest : SpcT := fun f args hp fs => match args with
 | [.ptr k 0, .int .i64 t] => if f = 48 then (match objOf 1 hp k with
  | some x => some (.ok ⟨.tuple [.agg (dsS (bstE (canon fs x) (canon fs t))), .bool (bokE (canon fs x) (canon fs t))], hp.put k ⟨true, .obj 1 [canon fs x]⟩, fs⟩)
  | none => none) else none
 | _ => none
theorem spBest_ok {ρ : Env} {w0 : World} {M : Nat -> Prop} {gl : Gl} (hf : Low ρ.fn) (hT0 : ∀ w', Kept w0 M w' -> TabsIn tabs2 w') : SpecOkT Tryz.prog ρ w0 M gl spBest := fun f args hp fs t ht β w K hh hfs ha hg hK => by
 unfold spBest at ht; split at ht
 ·rename_i k tm
  split at ht
  ·rename_i hfe
   subst hfe; split at ht
   ·rename_i x hx
    obtain rfl := sinj ht; obtain ⟨φ, ho⟩ := hh.objs; obtain ⟨hob, hc⟩ := obj_recs ho hx; have hT : ∀ w', Kept w (φ k) w' -> TabsIn tabs2 w' := fun w' hk => hT0 w' (Kept.nest hh.kept (fun i hi => ho.own k _ (objOf_spec hx) rfl i hi) hk)
    have e1 : ∀ j, (bstE (canon fs x) (canon fs tm) j).ev ρ = (bestD (qual (dec (x.ev ρ)) (tm.ev ρ))).getD j 0 := fun j => by rw [bstE_ev hf, canon_ev hfs, canon_ev hfs]
    have e2 := bokE_ev hf (canon fs x) (canon fs tm); rw [canon_ev hfs, canon_ev hfs] at e2
    have hval : ∀ β', (SV.tuple [.agg (dsS (bstE (canon fs x) (canon fs tm))), .bool (bokE (canon fs x) (canon fs tm))]).ev ρ β' = bestV (qual (dec (x.ev ρ)) (tm.ev ρ)) := fun β' => by
     show Value.tuple #[.agg (SV.evs ρ β' (dsS (bstE (canon fs x) (canon fs tm)))).toArray, .bool (decide ((bokE (canon fs x) (canon fs tm)).ev ρ ≠ 0))] = _; rw [dsS_ev fun j _ => e1 j]
     unfold bestV; rw [show decide ((bokE (canon fs x) (canon fs tm)).ev ρ ≠ 0) = decide (qual (dec (x.ev ρ)) (tm.ev ρ) ≠ []) from decide_eq_decide.2 e2]
    have hok : SV.oks ρ hp.n (dsS (bstE (canon fs x) (canon fs tm))) := by
     by_cases hq : qual (dec (x.ev ρ)) (tm.ev ρ) = []
     ·refine dsS_ok (d := d0) (fun j hj => ?_) d0_fits
      rw [e1, hq]; show ([] : List Int).getD j 0 = _
      match j, hj with
      | 0, _ => rfl | 1, _ => rfl | 2, _ => rfl | 3, _ => rfl | 4, _ => rfl | 5, _ => rfl | 6, _ => rfl | 7, _ => rfl | 8, _ => rfl | 9, _ => rfl | 10, _ => rfl
     ·refine dsS_ok (d := bestD (qual (dec (x.ev ρ)) (tm.ev ρ))) (fun j hj => e1 j) ?_
      unfold bestD; rw [if_neg hq]; refine qual_fits hob.1 _ _ (getD_mem ?_)
      have hbl : ∀ (less : Nat -> Nat -> Bool) (n : Nat) (l : List Nat) (b : Nat), b < n -> (∀ i ∈ l, i < n) -> bestI less b l < n := fun less n l => by
       induction l with
       | nil => exact fun b hb _ => hb
       | cons i l ih =>
        intro b hb hl; simp only [bestI]; refine ih _ ?_ fun j hj => hl j (lTl _ hj)
        split
        ·exact hl i (lHd ..)
        ·exact hb
      have hp := List.length_pos_iff.2 hq; exact hbl _ _ _ _ hp fun i hi => by have := List.mem_range'.1 hi; omega
    refine (best_any hob ha.2.1 hT).mono fun e w' ⟨he, hTu⟩ => ⟨_, ?_, hK β w' (Ext.refl _ _) (Nat.le_refl _) (stay_put (objOf_spec hx)) (turn_out hh ho hx hTu ?_) hfs ⟨hok, trivial, trivial⟩⟩
    ·rw [he, <- hval β]
    ·rw [canon_ev hfs, hc]
   ·cases ht
  ·cases ht
 ·cases ht
def spM : SpcT := orT spF (orT spBest (orT (ofSpc spLess) (ofSpc (sumSpec sums41))))
theorem spM_ok {ρ : Env} {w0 : World} {M : Nat -> Prop} {gl : Gl} (hf : Low ρ.fn) (hT : ∀ w', Kept w0 M w' -> TabsIn tabs2 w') (hs : SumsOk Tryz.prog ρ w0 M sums41) : SpecOkT Tryz.prog ρ w0 M gl spM :=
 orT_ok (spF_ok hf) (orT_ok (spBest_ok hf hT) (orT_ok (ofSpc_ok (spLess_ok hf hT)) (ofSpc_ok (sumSpec_ok hs))))
end
end
end Go.Proofs.YtfcpmapfhgibpaaGreatDoor
