/- Names of what records do. -/
import Derived.Test.YtfcpmapfhgibpaaDoorWi
import Derived.Test.YtfcpmapfhgibpaaDoorWb
import Derived.Test.YtfcpmapfhgibpaaDoorWj
namespace Go.Proofs.YtfcpmapfhgibpaaDoor
set_option maxRecDepth 100000
open Go Go.RowKit SX Frm Frn
set_option linter.unusedVariables false
set_option linter.unusedSimpArgs false

/-! ### Len and New, of records in memory -/
section
variable {s : FS} {b : Nat} {φ : Nat → Prop} {w w' : World}
theorem no_obj {n : Nat} (f : Option (Nat × Nat)) : ∀ k, k < (hpA n f).n → ((hpA n f).box k).c.isObj = false := fun k hk => by
  rcases box_cases (show k < 2 + n + n from hk) with rfl | rfl | ⟨i, hi, rfl⟩ | ⟨i, hi, rfl⟩
  · rfl
  · by_cases hz : n = 0
    · subst hz; rfl
    · show (boxA n f 1).c.isObj = false
      rw [boxA_1 (by omega)]; rfl
  · show (boxA n f (2 + i)).c.isObj = false
    rw [boxA_r hi]; rfl
  · show (boxA n f (2 + n + i)).c.isObj = false
    rw [boxA_t]
    unfold timesB
    cases isF f i <;> rfl
theorem newS_ok {win need : Int} (hw : 1 ≤ win ∧ win ≤ maxSim) (hn : 1 ≤ need ∧ need ≤ 8) : RsOk (newS win need) :=
  ⟨hw, hn, ⟨Int.le_refl 0, (by show (0 : Int) ≤ maxSim; decide)⟩, Nat.zero_le _, fun r hr => absurd hr (List.not_mem_nil), fun r hr => absurd hr (List.not_mem_nil), List.Pairwise.nil⟩
theorem new_any {win need : Int} (hw : 1 ≤ win ∧ win ≤ maxSim) (hn : 1 ≤ need ∧ need ≤ 8) : Calls Tryd.prog 27 #[.int .i64 win, .int .i64 need] w fun e w' => ∃ b φ, e = .returned (ptrV b) ∧ ObA (newS win need) b φ w' ∧ (∀ i, φ i → w.heap.size ≤ i) ∧ Below w.heap.size w w' := by
  have h1 : (Lit.int .i64 win).wf = true := by unfold maxSim at hw; exact wfI (by omega)
  have h2 : (Lit.int .i64 need).wf = true := wfI (by omega)
  have hF : SX.FsOk (envR (fun _ _ _ => 0) d0 0 win need 0 [] [] []) newF := by
    unfold maxSim at hw
    have e12 : (E.var 12).ev (envR (fun _ _ _ => 0) d0 0 win need 0 [] [] []) = win := rfl
    have e13 : (E.var 13).ev (envR (fun _ _ _ => 0) d0 0 win need 0 [] [] []) = need := rfl
    rw [newF, fsOk_cons, fsOk_cons, fsOk_cons, fsOk_cons, fsOk_nil, lt0_ev, lt0_ev, lt0_ev, lt0_ev, e12, e13, lit_ev, lit_ev, lit_ev]
    exact ⟨⟨fun h => by omega, fun h => Bool.noConfusion h⟩, ⟨fun h => by omega, fun h => Bool.noConfusion h⟩, ⟨fun h => by omega, fun h => Bool.noConfusion h⟩, ⟨fun h => by omega, fun h => Bool.noConfusion h⟩, trivial⟩
  refine ((callG_run (gl := []) (keep := noKeep) (fuel := 80) mixed okF_ok noSpec_ok 30 27 [.int .i64 (.var 12), .int .i64 (.var 13)] .nil newF β0 w
    (fun x w' => ∃ b φ, x = ptrV b ∧ ObA (newS win need) b φ w' ∧ (∀ i, φ i → w.heap.size ≤ i) ∧ Below w.heap.size w w') (heap_nil _ _ (fun _ => False) _) hF ⟨h1, h2, trivial⟩ (fun _ h => by cases h)
    (T.holds_mono (fun o ho β' w' hx hl hst hh hf _ => ?_) (T.all_holds new_run))).2).mono fun x w' ⟨y, he, b, φ, h1, h2⟩ => ⟨b, φ, by rw [he, h1], h2⟩
  unfold newEnd at ho
  split at ho
  · rename_i k hv
    have hl := isCells_lies hh hf ho
    obtain ⟨c, hk, _⟩ := isCells_spec hh hf ho
    refine ⟨(β' k).1, fun i => i = (β' k).1, (by rw [hv]; rfl), ⟨newS_ok hw hn, 0, 0, [], [], ⟨rfl, rfl, hl, fun h => absurd rfl h, fun i r m t h => (by simp [newS] at h), fun i r t h => (by simp [newS] at h), (by simp [newS])⟩, fun i => ?_⟩, fun i hi => ?_, hh.kept.to_below⟩
    · show i = (β' k).1 ↔ i ∈ blksA [] (β' k).1 0 [] []
      simp [blksA]
    · subst hi
      rcases hh.mine k _ hk rfl rfl with h | h
      · exact h.elim
      · exact h
  · cases ho
end
/-! ### Names -/
def hearA (x : E) (d : List E) (t : E) : List E := x :: (d ++ [t])
def hearE (x : E) (d : List E) (t : E) : E := .app 40 0 (hearA x d t)
def badE (x : E) (d : List E) (t : E) : E := .app 41 0 (hearA x d t)
def qnE (x t : E) : E := .app 42 0 [x, t]
def qfE (x t : E) (i j : Nat) : E := .app 43 j [x, t, litN i]
def lenE (x : E) : E := .app 44 0 [x]
def newE (a b : E) : E := .app 45 0 [a, b]
def forgE (x t : E) : E := .app 46 0 [x, t]
def goneE (x t : E) : E := .app 47 0 [x, t]
def nowE (x : E) : E := .app 50 0 [x]
def lessE (a b : List E) : E := .app 3 0 (a ++ b)
def goodE (x : E) : E := .app 51 0 [x]
def winE (x : E) : E := .app 52 0 [x]
def needE (x : E) : E := .app 53 0 [x]
def bstE (x t : E) (j : Nat) : E := .app 48 j [x, t]
def bokE (x t : E) : E := .app 49 0 [x, t]
/-- Is this set among the first i qualified ones? -/
def fndE (x t : E) (i : Nat) (d : List E) : E := .app 54 0 (x :: t :: litN i :: d)
section
variable {ρ : Env}
theorem evs_take {d : List E} {t : E} (h : d.length = 11) (x : E) : (E.evs ρ (hearA x d t)).headD 0 = x.ev ρ ∧ (E.evs ρ (hearA x d t)).tail.take 11 = E.evs ρ d ∧ (E.evs ρ (hearA x d t)).getD 12 0 = t.ev ρ := by
  have hl : (E.evs ρ d).length = 11 := by rw [evs_len]; exact h
  refine ⟨rfl, ?_, ?_⟩
  · show (E.evs ρ (d ++ [t])).take 11 = _
    rw [evs_app, List.take_append_of_le_length (by omega), List.take_of_length_le (by omega)]
  · show (x.ev ρ :: E.evs ρ (d ++ [t])).getD 12 0 = _
    rw [evs_app, List.getD_cons_succ, List.getD_eq_getElem?_getD, List.getElem?_append_right (by omega), hl]
    rfl
theorem hearE_ev (hf : Low ρ.fn) {x t : E} {d : List E} (h : d.length = 11) : (hearE x d t).ev ρ = code (hear (dec (x.ev ρ)) (E.evs ρ d) (t.ev ρ)) := by
  obtain ⟨e1, e2, e3⟩ := evs_take (ρ := ρ) (t := t) h x
  show ρ.fn 40 0 (E.evs ρ (hearA x d t)) = _
  rw [hf 40 (by decide)]
  show code (hear (dec ((E.evs ρ (hearA x d t)).headD 0)) ((E.evs ρ (hearA x d t)).tail.take 11) ((E.evs ρ (hearA x d t)).getD 12 0)) = _
  rw [e1, e2, e3]
theorem badE_ev (hf : Low ρ.fn) {x t : E} {d : List E} (h : d.length = 11) : (badE x d t).ev ρ = bad (dec (x.ev ρ)) (E.evs ρ d) (t.ev ρ) := by
  obtain ⟨e1, e2, e3⟩ := evs_take (ρ := ρ) (t := t) h x
  show ρ.fn 41 0 (E.evs ρ (hearA x d t)) = _
  rw [hf 41 (by decide)]
  show bad (dec ((E.evs ρ (hearA x d t)).headD 0)) ((E.evs ρ (hearA x d t)).tail.take 11) ((E.evs ρ (hearA x d t)).getD 12 0) = _
  rw [e1, e2, e3]
theorem qnE_ev (hf : Low ρ.fn) (x t : E) : (qnE x t).ev ρ = ((qual (dec (x.ev ρ)) (t.ev ρ)).length : Int) := by show ρ.fn 42 0 _ = _; rw [hf 42 (by decide)]; rfl
theorem qfE_ev (hf : Low ρ.fn) (x t : E) (i j : Nat) : (qfE x t i j).ev ρ = ((qual (dec (x.ev ρ)) (t.ev ρ)).getD i []).getD j 0 := by show ρ.fn 43 j _ = _; rw [hf 43 (by decide)]; rfl
theorem lenE_ev (hf : Low ρ.fn) (x : E) : (lenE x).ev ρ = ((dec (x.ev ρ)).l.length : Int) := by show ρ.fn 44 0 _ = _; rw [hf 44 (by decide)]; rfl
theorem newE_ev (hf : Low ρ.fn) (a b : E) : (newE a b).ev ρ = code (newS (a.ev ρ) (b.ev ρ)) := by show ρ.fn 45 0 _ = _; rw [hf 45 (by decide)]; rfl
theorem forgE_ev (hf : Low ρ.fn) (x t : E) : (forgE x t).ev ρ = code (forget (dec (x.ev ρ)) (t.ev ρ)) := by show ρ.fn 46 0 _ = _; rw [hf 46 (by decide)]; rfl
theorem goneE_ev (hf : Low ρ.fn) (x t : E) : (goneE x t).ev ρ = (gone (dec (x.ev ρ)) (t.ev ρ) : Int) := by show ρ.fn 47 0 _ = _; rw [hf 47 (by decide)]; rfl
end
theorem fndE_ev {ρ : Env} (hf : Low ρ.fn) (x t : E) (i : Nat) (d : List E) : (fndE x t i d).ev ρ = if E.evs ρ d ∈ (qual (dec (x.ev ρ)) (t.ev ρ)).take i then 1 else 0 := by show ρ.fn 54 0 _ = _; rw [hf 54 (by decide)]; rfl
theorem bstE_ev {ρ : Env} (hf : Low ρ.fn) (x t : E) (j : Nat) : (bstE x t j).ev ρ = (bestD (qual (dec (x.ev ρ)) (t.ev ρ))).getD j 0 := by show ρ.fn 48 j _ = _; rw [hf 48 (by decide)]; rfl
theorem bokE_ev {ρ : Env} (hf : Low ρ.fn) (x t : E) : (bokE x t).ev ρ ≠ 0 ↔ qual (dec (x.ev ρ)) (t.ev ρ) ≠ [] := by
  show ρ.fn 49 0 _ ≠ 0 ↔ _
  rw [hf 49 (by decide)]
  show (if qual (dec (x.ev ρ)) (t.ev ρ) = [] then (0 : Int) else 1) ≠ 0 ↔ _
  split <;> simp [*]
theorem lessE_ev {ρ : Env} (hf : Low ρ.fn) {a b : List E} (ha : a.length = 11) (hb : b.length = 11) : (lessE a b).ev ρ ≠ 0 ↔ ltB (E.evs ρ a) (E.evs ρ b) = true := by
  show ρ.fn 3 0 (E.evs ρ (a ++ b)) ≠ 0 ↔ _
  rw [hf 3 (by decide)]
  show (if ltB ((E.evs ρ (a ++ b)).take 11) (((E.evs ρ (a ++ b)).drop 11).take 11) then (1 : Int) else 0) ≠ 0 ↔ _
  have h1 : (E.evs ρ a).length = 11 := by rw [evs_len]; exact ha
  have h2 : (E.evs ρ b).length = 11 := by rw [evs_len]; exact hb
  rw [evs_app, List.take_append_of_le_length (by omega), List.take_of_length_le (by omega), List.drop_append_of_le_length (by omega), List.drop_of_length_le (by omega), List.nil_append, List.take_of_length_le (by omega)]
  split <;> simp [*]
theorem goodE_ev {ρ : Env} (hf : Low ρ.fn) (x : E) : (goodE x).ev ρ = 1 ↔ RsOk (dec (x.ev ρ)) := by
  show ρ.fn 51 0 [x.ev ρ] = 1 ↔ _
  rw [hf 51 (by decide)]
  show goodN (x.ev ρ) = 1 ↔ _
  unfold goodN
  split <;> simp [*]
theorem winE_ev {ρ : Env} (hf : Low ρ.fn) (x : E) : (winE x).ev ρ = (dec (x.ev ρ)).win := by show ρ.fn 52 0 _ = _; rw [hf 52 (by decide)]; rfl
theorem needE_ev {ρ : Env} (hf : Low ρ.fn) (x : E) : (needE x).ev ρ = (dec (x.ev ρ)).need := by show ρ.fn 53 0 _ = _; rw [hf 53 (by decide)]; rfl
theorem nowE_ev {ρ : Env} (hf : Low ρ.fn) (x : E) : (nowE x).ev ρ = max 0 (dec (x.ev ρ)).now := by show ρ.fn 50 0 _ = _; rw [hf 50 (by decide)]; rfl
/-! ### Data sets at a call -/
def takeK : List IntKind → List SV → Option (List E)
  | [], [] => some []
  | k :: ks, .int k' e :: ss => if kTag k' = kTag k then (takeK ks ss).map (e :: ·) else none
  | _, _ => none
theorem takeK_spec {ρ : Env} {β : Bm} {n : Nat} : ∀ {ks : List IntKind} {ss : List SV} {es : List E}, takeK ks ss = some es → SV.oks ρ n ss → SV.evs ρ β ss = valsK ks (E.evs ρ es) ∧ fitsK ks (E.evs ρ es) ∧ es.length = ks.length
  | [], [], es, h, _ => by obtain rfl := Option.some.inj h; exact ⟨rfl, rfl, rfl⟩
  | [], _ :: _, es, h, _ => by simp [takeK] at h
  | k :: ks, [], es, h, _ => by simp [takeK] at h
  | k :: ks, s :: ss, es, h, hok => by
    unfold takeK at h
    split at h
    · rename_i e1 e2; cases e1
    · rename_i k1 ks1 k' e ss1 h1 h2
      cases h1
      cases h2
      split at h
      · rename_i hk
        obtain rfl := kTag_inj hk
        simp only [Option.map_eq_some_iff] at h
        obtain ⟨es', he, rfl⟩ := h
        obtain ⟨a1, a2, a3⟩ := takeK_spec (β := β) he hok.2
        refine ⟨?_, ⟨hok.1, by simp [E.evs], a2⟩, by simp [a3]⟩
        simp only [SV.evs, SV.ev, valsK, E.evs, a1, List.headD_cons, List.tail_cons]
      · cases h
    · cases h
def canons (fs : Fs) (es : List E) : List E := es.map (canon fs)
theorem canons_ev {ρ : Env} {fs : Fs} (hf : SX.FsOk ρ fs) : ∀ es : List E, E.evs ρ (canons fs es) = E.evs ρ es
  | [] => rfl
  | e :: es => by
    have := canons_ev hf es
    unfold canons at *
    simp only [List.map_cons, E.evs, this, canon_ev hf]
def resQ (hp : Hp) (fs : Fs) (x t : E) (m : Nat) : Out :=
  match m with
  | 0 => ⟨.raw (.slice none 0 0), hp, fs⟩
  | m + 1 => ⟨.slice hp.n 0 (m + 1) none, hp.push ⟨true, .cells ((List.range (m + 1)).flatMap fun i => dsS (qfE x t i)) 35 12⟩, fs⟩
/-- By the number of qualified data sets: r numbers are left, from m on. -/
def qualT (hp : Hp) (x t : E) : Nat → Nat → Fs → T Out
  | 0, m, fs => .ok (resQ hp (learn fs (eq0 (qnE x t) (litN m)) true) x t m)
  | r + 1, m, fs => SX.split fs (eq0 (qnE x t) (litN m)) (fun fs => .ok (resQ hp fs x t m)) (fun fs => qualT hp x t r (m + 1) fs)
def isNewR (a b : E) (hp : Hp) (fs : Fs) : T Out :=
  SX.split fs (lt0 a (.lit 1)) (fun fs => .ok ⟨.raw (.pointer none), hp, fs⟩) fun fs => SX.split fs (lt0 (.lit 1125899906842624) a) (fun fs => .ok ⟨.raw (.pointer none), hp, fs⟩) fun fs =>
    SX.split fs (lt0 b (.lit 1)) (fun fs => .ok ⟨.raw (.pointer none), hp, fs⟩) fun fs => SX.split fs (lt0 (.lit 8) b) (fun fs => .ok ⟨.raw (.pointer none), hp, fs⟩) fun fs => .ok ⟨.ptr hp.n 0, hp.push ⟨true, .obj 1 [newE a b]⟩, fs⟩
def objOf (q : Nat) (hp : Hp) (k : Nat) : Option E :=
  match hp.at k with
  | some ⟨true, .obj q' [x]⟩ => if q' = q then some x else none
  | _ => none
theorem objOf_spec {q : Nat} {hp : Hp} {k : Nat} {x : E} (h : objOf q hp k = some x) : hp.at k = some ⟨true, .obj q [x]⟩ := by
  unfold objOf at h
  split at h
  · rename_i q' x' hk
    split at h
    · rename_i hq
      subst hq
      obtain rfl := Option.some.inj h
      exact hk
    · cases h
  · cases h
def spHear : SpcT := fun f args hp fs => match args with
  | [.ptr k 0, .agg ss, .int .i64 t] => if f = 45 then (match objOf 1 hp k, takeK ks11 ss with
    | some x, some es => some (SX.split fs (eq0 (badE (canon fs x) (canons fs es) (canon fs t)) (.lit 0))
        (fun fs' => .ok ⟨.int .i64 (.lit 0), hp.put k ⟨true, .obj 1 [hearE (canon fs x) (canons fs es) (canon fs t)]⟩, fs'⟩)
        (fun fs' => .ok ⟨.int .i64 (badE (canon fs x) (canons fs es) (canon fs t)), hp.put k ⟨true, .obj 1 [canon fs x]⟩, fs'⟩))
    | _, _ => none) else none
  | _ => none
def spQual : SpcT := fun f args hp fs => match args with
  | [.ptr k 0, .int .i64 t] => if f = 56 then (match objOf 1 hp k with
    | some x => some (qualT hp (canon fs x) (canon fs t) 5 0 fs)
    | none => none)
    else if f = 37 then (match objOf 1 hp k with
    | some x => some (.ok ⟨.int .i64 (goneE (canon fs x) (canon fs t)), hp.put k ⟨true, .obj 1 [forgE (canon fs x) (canon fs t)]⟩, fs⟩)
    | none => none) else none
  | _ => none
def spNew : SpcT := fun f args hp fs => match args with
  | [.int .i64 a, .int .i64 b] => if f = 27 then some (isNewR (canon fs a) (canon fs b) hp fs) else none
  | _ => none
section
variable {ρ : Env} {w0 w : World} {M : Nat → Prop} {gl : Gl} {β : Bm} {hp : Hp} {fs : Fs}
/-- The records behind an object. -/
theorem obj_recs {φ : Nat → Nat → Prop} (ho : ObjsOk ρ w0 M β hp φ w) {k : Nat} {x : E} (hk : objOf 1 hp k = some x) : ObA (dec (x.ev ρ)) (β k).1 (φ k) w ∧ code (dec (x.ev ρ)) = x.ev ρ := by
  have h := ho.has k _ 1 [x] (objOf_spec hk) rfl
  obtain ⟨s, hs, h2⟩ : ∃ s, code s = x.ev ρ ∧ ObA s (β k).1 (φ k) w := h
  rw [← hs, dec_code]
  exact ⟨h2, rfl⟩
theorem stay_put {k : Nat} {c c' : Bx} (hk : hp.at k = some ⟨true, c⟩) : Stay hp (hp.put k ⟨true, c'⟩) := fun j b hj hr => by
  by_cases he : j = k
  · rw [he, hk] at hj
    obtain rfl := Option.some.inj hj
    cases hr
  · rw [Hp.at_put_ne _ he]; exact hj
theorem turn_out {φ : Nat → Nat → Prop} {w' : World} {k : Nat} {x y : E} {s' : FS} (hh : Heap ρ w0 M β hp w) (ho : ObjsOk ρ w0 M β hp φ w) (hk : objOf 1 hp k = some x) (hT : Turns s' (β k).1 (φ k) w w') (hy : y.ev ρ = code s') : Heap ρ w0 M β (hp.put k ⟨true, .obj 1 [y]⟩) w' := by
  obtain ⟨φ', h1, h2, h3⟩ := hT
  refine Heap.turn_ hh ho (objOf_spec hk) (φ' := φ') ?_ h2 h3
  exact (⟨s', hy.symm, h1⟩ : ∃ s, code s = y.ev ρ ∧ ObA s (β k).1 φ' w')
theorem spHear_ok (hf : Low ρ.fn) : SpecOkT Tryd.prog ρ w0 M gl spHear := fun f args hp fs t ht β w K hh hfs ha hg hK => by
  unfold spHear at ht
  split at ht
  · rename_i k ss tm
    split at ht
    · rename_i hfe
      subst hfe
      split at ht
      · rename_i x es hx hes
        obtain rfl := Option.some.inj ht
        obtain ⟨φ, ho⟩ := hh.objs
        obtain ⟨hob, hc⟩ := obj_recs ho hx
        obtain ⟨t1, t2, t3⟩ := takeK_spec (β := β) hes ha.2.1
        have hargs : SV.evs ρ β [.ptr k 0, .agg ss, .int .i64 tm] = [ptrV (β k).1, .agg (dsVals (E.evs ρ es)).toArray, .int .i64 (tm.ev ρ)] := by
          simp only [SV.evs, SV.ev, t1]; rfl
        rw [hargs]
        have hl : (canons fs es).length = 11 := by unfold canons; rw [List.length_map, t3]; rfl
        have hbad : (badE (canon fs x) (canons fs es) (canon fs tm)).ev ρ = bad (dec (x.ev ρ)) (E.evs ρ es) (tm.ev ρ) := by rw [badE_ev hf hl, canons_ev hfs, canon_ev hfs, canon_ev hfs]
        obtain ⟨fs', hf', hc2⟩ := split_holds hfs hK
        rcases hc2 with ⟨c, h2⟩ | ⟨c, h2⟩
        · have hz : bad (dec (x.ev ρ)) (E.evs ρ es) (tm.ev ρ) = 0 := by rw [← hbad]; exact (eqk_ev (ρ := ρ) .i64 _ (.lit 0)).1 c
          refine (hear_any hob t2 ha.2.2.1).mono fun e w' ⟨he, hT⟩ => ⟨_, ?_, h2 β w' (Ext.refl _ _) (Nat.le_refl _) (stay_put (objOf_spec hx)) (turn_out hh ho hx hT ?_) hf' (by show (Lit.int .i64 0).wf = true; decide)⟩
          · rw [he, hz]; rfl
          · rw [hearE_ev hf hl, canons_ev hfs, canon_ev hfs, canon_ev hfs]
        · have hz : bad (dec (x.ev ρ)) (E.evs ρ es) (tm.ev ρ) ≠ 0 := fun e => (eqk_ev (ρ := ρ) .i64 (badE (canon fs x) (canons fs es) (canon fs tm)) (.lit 0)).2 (by rw [hbad, e]; rfl) c
          have hsame : hear (dec (x.ev ρ)) (E.evs ρ es) (tm.ev ρ) = dec (x.ev ρ) := by unfold hear; rw [if_neg hz]
          refine (hear_any hob t2 ha.2.2.1).mono fun e w' ⟨he, hT⟩ => ⟨_, ?_, h2 β w' (Ext.refl _ _) (Nat.le_refl _) (stay_put (objOf_spec hx)) (turn_out hh ho hx hT ?_) hf' ?_⟩
          · rw [he]
            show Ending.returned (.int .i64 _) = Ending.returned (.int .i64 ((badE _ _ _).ev ρ))
            rw [hbad]
          · rw [canon_ev hfs, hsame, hc]
          · show (Lit.int .i64 ((badE _ _ _).ev ρ)).wf = true
            rw [hbad]
            unfold bad
            repeat' split
            all_goals decide
      · cases ht
    · cases ht
  · cases ht
end
end Go.Proofs.YtfcpmapfhgibpaaDoor
namespace Go.Proofs.YtfcpmapfhgibpaaDoor
set_option maxRecDepth 100000
open Go Go.RowKit SX Frm Frn
set_option linter.unusedVariables false
set_option linter.unusedSimpArgs false

theorem qual_fits {s : FS} (hs : RsOk s) (t : Int) : ∀ d ∈ qual s t, fitsK ks11 d := fun d hd => by
  obtain ⟨r, hr, rfl⟩ := List.mem_map.1 hd
  have hr' := (List.mem_filter.1 hr).1
  exact (hs.msgs r hr' _ (lastM_mem (hs.some r hr').1)).fits
theorem qual_five {s : FS} (hs : RsOk s) (t : Int) : (qual s t).length ≤ 5 := by
  unfold qual quals
  rw [List.length_map]
  exact Nat.le_trans (List.length_filter_le _ _) hs.five
section
variable {ρ : Env} {w0 w : World} {M : Nat → Prop} {gl : Gl} {β : Bm} {hp : Hp} {fs : Fs}
theorem qualT_run {hp : Hp} {x t : E} {L : Nat} {Q : Out → Prop} (hlen : (qnE x t).ev ρ = (L : Int)) : ∀ (r m : Nat) (fs : Fs), SX.FsOk ρ fs → m ≤ L → L ≤ m + r → (qualT hp x t r m fs).holds ρ Q → ∃ fs', SX.FsOk ρ fs' ∧ Q (resQ hp fs' x t L)
  | 0, m, fs, hf, h1, h2, h => by
    obtain rfl : L = m := by omega
    refine ⟨_, learn_ok hf ?_, h⟩
    show (E.bin .eq .i64 (qnE x t) (litN L)).ev ρ ≠ 0 ↔ true = true
    rw [eqk_ev, hlen]
    exact ⟨fun _ => rfl, fun _ => rfl⟩
  | r + 1, m, fs, hf, h1, h2, h => by
    obtain ⟨fs', hf', h'⟩ := split_holds hf h
    rcases h' with ⟨c, h'⟩ | ⟨c, h'⟩
    · have e := (eqk_ev (ρ := ρ) .i64 (qnE x t) (litN m)).1 c
      rw [hlen] at e
      have : L = m := Int.ofNat.inj e
      subst this
      exact ⟨fs', hf', h'⟩
    · refine qualT_run hlen r (m + 1) fs' hf' ?_ (by omega) h'
      have : ¬ (qnE x t).ev ρ = (litN m).ev ρ := fun e => (eqk_ev (ρ := ρ) .i64 (qnE x t) (litN m)).2 e c
      rw [hlen] at this
      have h3 : ¬ L = m := fun e => this (by rw [e]; rfl)
      omega
theorem setsF_ev {β : Bm} (h : Nat → Nat → E) (g : Nat → List Int) : ∀ js : List Nat, (∀ i ∈ js, ∀ q, q < 11 → (h i q).ev ρ = (g i).getD q 0) → SV.evs ρ β (js.flatMap fun i => dsS (h i)) = ((js.map g).map dsVals).flatten
  | [], _ => rfl
  | i :: js, hq => by
    rw [List.flatMap_cons, evs_append, setsF_ev h g js fun j hj => hq j (List.mem_cons_of_mem _ hj), dsS_ev (hq i (List.mem_cons_self ..))]
    rfl
theorem setsF_ok {n : Nat} (h : Nat → Nat → E) (g : Nat → List Int) : ∀ js : List Nat, (∀ i ∈ js, ∀ q, q < 11 → (h i q).ev ρ = (g i).getD q 0) → (∀ i ∈ js, fitsK ks11 (g i)) → SV.oks ρ n (js.flatMap fun i => dsS (h i))
  | [], _, _ => trivial
  | i :: js, hq, hf => by
    rw [List.flatMap_cons]
    exact oks_append (dsS_ok (hq i (List.mem_cons_self ..)) (hf i (List.mem_cons_self ..))) (setsF_ok h g js (fun j hj => hq j (List.mem_cons_of_mem _ hj)) fun j hj => hf j (List.mem_cons_of_mem _ hj))
theorem setsF_len (h : Nat → Nat → E) : ∀ js : List Nat, (js.flatMap fun i => dsS (h i)).length = js.length * 11
  | [] => rfl
  | i :: js => by
    rw [List.flatMap_cons, List.length_append, setsF_len h js, List.length_cons]
    show 11 + _ = _
    omega
/-- New memory that holds data sets, as a box. -/
theorem newSets_out {q : List (List Int)} {w' : World} {e : Ending} {x t : E} {K : Value → World → Prop} (hh : Heap ρ w0 M β hp w) (hs : NewSets q w w' e) (hb : Below w.heap.size w w') (hfit : ∀ d ∈ q, fitsK ks11 d)
    (hq : ∀ i j, (qfE x t i j).ev ρ = (q.getD i []).getD j 0) {fs' : Fs} (hf' : SX.FsOk ρ fs')
    (hK : ∀ (β' : Bm) (w' : World), Ext hp.n β β' → hp.n ≤ (resQ hp fs' x t q.length).hp.n → Stay hp (resQ hp fs' x t q.length).hp → Heap ρ w0 M β' (resQ hp fs' x t q.length).hp w' → SX.FsOk ρ (resQ hp fs' x t q.length).fs → (resQ hp fs' x t q.length).v.ok ρ (resQ hp fs' x t q.length).hp.n → K ((resQ hp fs' x t q.length).v.ev ρ β') w') :
    ∃ v, e = .returned v ∧ K v w' := by
  rcases hs with ⟨rfl, rfl⟩ | ⟨blk, cap, rest, h1, rfl, h2, h3, h4⟩
  · exact ⟨_, rfl, hK β w' (Ext.refl _ _) (Nat.le_refl _) (Stay.refl _) (hh.below hb) hf' trivial⟩
  · obtain ⟨m, hm⟩ : ∃ m, q.length = m + 1 := ⟨q.length - 1, by have := List.length_pos_iff.2 h1; omega⟩
    rw [hm] at hK
    have hev : ∀ β', SV.evs ρ β' ((List.range (m + 1)).flatMap fun i => dsS (qfE x t i)) = (q.map dsVals).flatten := fun β' => by
      rw [setsF_ev (qfE x t) (fun i => q.getD i []) _ fun i _ j _ => hq i j]
      congr 2
      apply List.ext_getElem?
      intro i
      by_cases hi : i < q.length
      · rw [List.getElem?_map, List.getElem?_range (by omega)]
        simp [List.getD_eq_getElem?_getD, List.getElem?_eq_getElem hi]
      · rw [List.getElem?_eq_none (by simp; omega), List.getElem?_eq_none (by omega)]
    have hok : SV.oks ρ (hp.n + 1) ((List.range (m + 1)).flatMap fun i => dsS (qfE x t i)) := setsF_ok (qfE x t) (fun i => q.getD i []) _ (fun i _ j _ => hq i j) fun i hi => hfit _ (getD_mem (by have := List.mem_range.1 hi; omega))
    have hpush : Heap ρ w0 M (upd β hp.n (blk, cap)) (hp.push ⟨true, .cells ((List.range (m + 1)).flatMap fun i => dsS (qfE x t i)) 35 12⟩) w' :=
      (hh.below hb).push (fun j b' hj hv e => by
        have := Bx.lies_lt (hh.lies j b' hj) hv
        simp only at e
        omega) (.inr (Nat.le_trans hh.kept.size h2)) hok ⟨rest, by rw [hev]; exact h3, by rw [setsF_len, List.length_range, ← hm]; exact h4⟩ (hh.objs_new hb h2)
    refine ⟨_, rfl, ?_⟩
    have := hK (upd β hp.n (blk, cap)) w' (upd_ext _ _ _) (show hp.n ≤ hp.n + 1 from Nat.le_succ _) (Stay.push _ _) hpush hf' (show hp.n < hp.n + 1 from Nat.lt_succ_self _)
    have e2 : SV.ev ρ (upd β hp.n (blk, cap)) (SV.slice hp.n 0 (m + 1) none) = slV blk q.length cap := by
      show Value.slice (some ⟨(upd β hp.n (blk, cap) hp.n).1, 0, none⟩) (m + 1) (Option.getD none (upd β hp.n (blk, cap) hp.n).2) = _
      rw [upd_same, hm]; rfl
    rw [← e2]
    exact this
theorem spQual_ok (hf : Low ρ.fn) : SpecOkT Tryd.prog ρ w0 M gl spQual := fun f args hp fs t ht β w K hh hfs ha hg hK => by
  unfold spQual at ht
  split at ht
  · rename_i k tm
    split at ht
    · rename_i hfe
      subst hfe
      split at ht
      · rename_i x hx
        obtain rfl := Option.some.inj ht
        obtain ⟨φ, ho⟩ := hh.objs
        obtain ⟨hob, hc⟩ := obj_recs ho hx
        have hqn : (qnE (canon fs x) (canon fs tm)).ev ρ = ((qual (dec (x.ev ρ)) (tm.ev ρ)).length : Int) := by rw [qnE_ev hf, canon_ev hfs, canon_ev hfs]
        obtain ⟨fs', hf', hQ⟩ := qualT_run hqn 5 0 fs hfs (Nat.zero_le _) (by have := qual_five hob.1 (tm.ev ρ); omega) hK
        exact (qual_any hob ha.2.1).mono fun e w' ⟨hs, hb⟩ => newSets_out hh hs hb (qual_fits hob.1 _) (fun i j => by rw [qfE_ev hf, canon_ev hfs, canon_ev hfs]) hf' hQ
      · cases ht
    · split at ht
      · rename_i hfe
        subst hfe
        split at ht
        · rename_i x hx
          obtain rfl := Option.some.inj ht
          obtain ⟨φ, ho⟩ := hh.objs
          obtain ⟨hob, hc⟩ := obj_recs ho hx
          have h5 := hob.1.five
          refine (forget_any hob ha.2.1).mono fun e w' ⟨he, hT⟩ => ⟨_, ?_, hK β w' (Ext.refl _ _) (Nat.le_refl _) (stay_put (objOf_spec hx)) (turn_out hh ho hx hT ?_) hfs ?_⟩
          · rw [he]
            show Ending.returned (.int .i64 _) = Ending.returned (.int .i64 ((goneE _ _).ev ρ))
            rw [goneE_ev hf, canon_ev hfs, canon_ev hfs]
          · rw [forgE_ev hf, canon_ev hfs, canon_ev hfs]
          · show (Lit.int .i64 ((goneE _ _).ev ρ)).wf = true
            rw [goneE_ev hf, canon_ev hfs, canon_ev hfs]
            unfold gone
            exact wfI (by omega)
        · cases ht
      · cases ht
  · cases ht
/-! ### New -/
def badNew (a b : Int) : Prop := a < 1 ∨ maxSim < a ∨ b < 1 ∨ 8 < b
def nilF (j : Nat) : Fs := match j with
  | 0 => [(lt0 (.var 12) (.lit 1), true)]
  | 1 => [(lt0 (.var 12) (.lit 1), false), (lt0 (.lit 1125899906842624) (.var 12), true)]
  | 2 => [(lt0 (.var 12) (.lit 1), false), (lt0 (.lit 1125899906842624) (.var 12), false), (lt0 (.var 13) (.lit 1), true)]
  | _ => [(lt0 (.var 12) (.lit 1), false), (lt0 (.lit 1125899906842624) (.var 12), false), (lt0 (.var 13) (.lit 1), false), (lt0 (.lit 8) (.var 13), true)]
def isNilP (o : Out) : Bool := match o.v with
  | .raw (.pointer none) => true
  | _ => false
noncomputable def nilB (j : Nat) : Bool := (callG Tryd.prog [] okF noSpec noKeep 80 30 27 [.int .i64 (.var 12), .int .i64 (.var 13)] .nil (nilF j)).all isNilP
theorem nil_runs : upTo 3 nilB = true := by kernel_rfl
theorem new_nil {win need : Int} (h1 : (Lit.int .i64 win).wf = true) (h2 : (Lit.int .i64 need).wf = true) (h : badNew win need) : Calls Tryd.prog 27 #[.int .i64 win, .int .i64 need] w fun e w' => e = .returned (.pointer none) ∧ Below w.heap.size w w' := by
  have go : ∀ j, j ≤ 3 → SX.FsOk (envR (fun _ _ _ => 0) d0 0 win need 0 [] [] []) (nilF j) → Calls Tryd.prog 27 #[.int .i64 win, .int .i64 need] w fun e w' => e = .returned (.pointer none) ∧ Below w.heap.size w w' := fun j hj hF => by
    have hr := upTo_spec nil_runs hj
    refine ((callG_run (gl := []) (keep := noKeep) (fuel := 80) mixed okF_ok noSpec_ok 30 27 [.int .i64 (.var 12), .int .i64 (.var 13)] .nil (nilF j) β0 w
      (fun x w' => x = .pointer none ∧ Below w.heap.size w w') (heap_nil _ _ (fun _ => False) _) hF ⟨h1, h2, trivial⟩ (fun _ h => by cases h)
      (T.holds_mono (fun o ho β' w' hx hl hst hh hf _ => ?_) (T.all_holds hr))).2).mono fun x w' ⟨y, he, h1, h2⟩ => ⟨by rw [he, h1], h2⟩
    unfold isNilP at ho
    split at ho
    · rename_i hv
      exact ⟨by rw [hv]; rfl, hh.kept.to_below⟩
    · cases ho
  have e12 : (E.var 12).ev (envR (fun _ _ _ => 0) d0 0 win need 0 [] [] []) = win := rfl
  have e13 : (E.var 13).ev (envR (fun _ _ _ => 0) d0 0 win need 0 [] [] []) = need := rfl
  have no : ∀ {p : Prop}, ¬ p → (p ↔ false = true) := fun hp => ⟨fun h => absurd h hp, fun h => Bool.noConfusion h⟩
  have yes : ∀ {p : Prop}, p → (p ↔ true = true) := fun hp => ⟨fun _ => rfl, fun _ => hp⟩
  unfold badNew maxSim at h
  by_cases c0 : win < 1
  · refine go 0 (by decide) ?_
    show SX.FsOk _ [(lt0 (.var 12) (.lit 1), true)]
    rw [fsOk_cons, fsOk_nil, lt0_ev, e12, lit_ev]
    exact ⟨yes c0, trivial⟩
  · by_cases c1 : 1125899906842624 < win
    · refine go 1 (by decide) ?_
      show SX.FsOk _ [(lt0 (.var 12) (.lit 1), false), (lt0 (.lit 1125899906842624) (.var 12), true)]
      rw [fsOk_cons, fsOk_cons, fsOk_nil, lt0_ev, lt0_ev, e12, lit_ev, lit_ev]
      exact ⟨no c0, yes c1, trivial⟩
    · by_cases c2 : need < 1
      · refine go 2 (by decide) ?_
        show SX.FsOk _ [(lt0 (.var 12) (.lit 1), false), (lt0 (.lit 1125899906842624) (.var 12), false), (lt0 (.var 13) (.lit 1), true)]
        rw [fsOk_cons, fsOk_cons, fsOk_cons, fsOk_nil, lt0_ev, lt0_ev, lt0_ev, e12, e13, lit_ev, lit_ev]
        exact ⟨no c0, no c1, yes c2, trivial⟩
      · refine go 3 (by decide) ?_
        show SX.FsOk _ [(lt0 (.var 12) (.lit 1), false), (lt0 (.lit 1125899906842624) (.var 12), false), (lt0 (.var 13) (.lit 1), false), (lt0 (.lit 8) (.var 13), true)]
        rw [fsOk_cons, fsOk_cons, fsOk_cons, fsOk_cons, fsOk_nil, lt0_ev, lt0_ev, lt0_ev, lt0_ev, e12, e13, lit_ev, lit_ev, lit_ev]
        exact ⟨no c0, no c1, no c2, yes (by omega), trivial⟩
theorem spNew_ok (hf : Low ρ.fn) : SpecOkT Tryd.prog ρ w0 M gl spNew := fun f args hp fs t ht β w K hh hfs ha hg hK => by
  unfold spNew at ht
  split at ht
  · rename_i a b
    split at ht
    · rename_i hfe
      subst hfe
      obtain rfl := Option.some.inj ht
      have ca := canon_ev hfs a
      have cb := canon_ev hfs b
      have hnil : badNew (a.ev ρ) (b.ev ρ) → (∀ (β' : Bm) (w' : World), Ext hp.n β β' → hp.n ≤ hp.n → Stay hp hp → Heap ρ w0 M β' hp w' → K (.pointer none) w') → Calls Tryd.prog 27 (SV.evs ρ β [.int .i64 a, .int .i64 b]).toArray w fun e w' => ∃ v, e = .returned v ∧ K v w' := fun hb hk =>
        (new_nil ha.1 ha.2.1 hb).mono fun e w' ⟨he, hb⟩ => ⟨_, he, hk β w' (Ext.refl _ _) (Nat.le_refl _) (Stay.refl _) (hh.below hb)⟩
      unfold isNewR at hK
      obtain ⟨fs1, hf1, h1⟩ := split_holds hfs hK
      rcases h1 with ⟨c1, h1⟩ | ⟨c1, h1⟩
      · rw [lt0_ev, ca, lit_ev] at c1
        exact hnil (.inl c1) fun β' w' p1 p2 p3 p4 => h1 β' w' p1 p2 p3 p4 hf1 trivial
      have c1' : ¬ a.ev ρ < 1 := fun e => (lt0_ev (ρ := ρ) (canon fs a) (.lit 1)).2 (by rw [ca]; exact e) c1
      obtain ⟨fs2, hf2, h2⟩ := split_holds hf1 h1
      rcases h2 with ⟨c2, h2⟩ | ⟨c2, h2⟩
      · rw [lt0_ev, ca, lit_ev] at c2
        exact hnil (.inr (.inl c2)) fun β' w' p1 p2 p3 p4 => h2 β' w' p1 p2 p3 p4 hf2 trivial
      have c2' : ¬ 1125899906842624 < a.ev ρ := fun e => (lt0_ev (ρ := ρ) (.lit 1125899906842624) (canon fs a)).2 (by rw [ca]; exact e) c2
      obtain ⟨fs3, hf3, h3⟩ := split_holds hf2 h2
      rcases h3 with ⟨c3, h3⟩ | ⟨c3, h3⟩
      · rw [lt0_ev, cb, lit_ev] at c3
        exact hnil (.inr (.inr (.inl c3))) fun β' w' p1 p2 p3 p4 => h3 β' w' p1 p2 p3 p4 hf3 trivial
      have c3' : ¬ b.ev ρ < 1 := fun e => (lt0_ev (ρ := ρ) (canon fs b) (.lit 1)).2 (by rw [cb]; exact e) c3
      obtain ⟨fs4, hf4, h4⟩ := split_holds hf3 h3
      rcases h4 with ⟨c4, h4⟩ | ⟨c4, h4⟩
      · rw [lt0_ev, cb, lit_ev] at c4
        exact hnil (.inr (.inr (.inr c4))) fun β' w' p1 p2 p3 p4 => h4 β' w' p1 p2 p3 p4 hf4 trivial
      have c4' : ¬ 8 < b.ev ρ := fun e => (lt0_ev (ρ := ρ) (.lit 8) (canon fs b)).2 (by rw [cb]; exact e) c4
      refine (new_any (win := a.ev ρ) (need := b.ev ρ) (by unfold maxSim; omega) (by omega)).mono fun e w' ⟨blk, φ', he, hob, hφ, hb⟩ => ⟨_, he, ?_⟩
      have hev : (newE (canon fs a) (canon fs b)).ev ρ = code (newS (a.ev ρ) (b.ev ρ)) := by rw [newE_ev hf, ca, cb]
      have hob' : Ob 1 (E.evs ρ [newE (canon fs a) (canon fs b)]) blk φ' w' := (⟨_, hev.symm, hob⟩ : ∃ s, code s = (newE (canon fs a) (canon fs b)).ev ρ ∧ ObA s blk φ' w')
      have := h4 (upd β hp.n (blk, 0)) w' (upd_ext _ _ _) (by simp) (Stay.push _ _) (Heap.newObj hh hb hob' hφ) hf4 (by show hp.n < _; simp)
      have e2 : SV.ev ρ (upd β hp.n (blk, 0)) (SV.ptr hp.n 0) = ptrV blk := by
        show Value.pointer (some ⟨(upd β hp.n (blk, 0) hp.n).1, 0, none⟩) = _
        rw [upd_same]; rfl
      rw [e2] at this
      exact this
    · cases ht
  · cases ht
end
/-- The methods of package foreign. -/
def spF : SpcT := orT spHear (orT spQual spNew)
theorem spF_ok {ρ : Env} {w0 : World} {M : Nat → Prop} {gl : Gl} (hf : Low ρ.fn) : SpecOkT Tryd.prog ρ w0 M gl spF := orT_ok (spHear_ok hf) (orT_ok (spQual_ok hf) (spNew_ok hf))
end Go.Proofs.YtfcpmapfhgibpaaDoor
