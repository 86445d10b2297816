/- Records of package foreign at a law's calls: their methods as names. -/
import Derived.Test.YtbjficjcgpgcbaaDoorFm
import Derived.Test.YtbjficjcgpgcbaaDoorDsP
namespace Go.Proofs.YtbjficjcgpgcbaaDoor
open Go Go.RowKit SX Frm Frn
set_option linter.unusedVariables false
set_option linter.unusedSimpArgs false

/-! ### Len and New, of records in memory -/
section
variable {s : FS} {b : Nat} {φ : Nat → Prop} {w w' : World}
theorem no_obj {n : Nat} (f : Option (Nat × Nat)) : ∀ k, k < (hpA n f).n → ((hpA n f).box k).c.isObj = false := fun k hk => by
  rcases box_cases (show k < 2 + n + n from hk) with rfl | rfl | ⟨i, hi, rfl⟩ | ⟨i, hi, rfl⟩
  · rfl
  · by_cases hz : n = 0
    · subst hz; rfl
    · show (boxA n f 1).c.isObj = false
      rw [boxA_1 (by omega)]; rfl
  · show (boxA n f (2 + i)).c.isObj = false
    rw [boxA_r hi]; rfl
  · show (boxA n f (2 + n + i)).c.isObj = false
    rw [boxA_t]
    unfold timesB
    cases isF f i <;> rfl
theorem len_any (h : ObA s b φ w) : Calls Tryd.prog 22 #[ptrV b] w fun e w' => e = .returned (.int .i64 (s.l.length : Int)) ∧ Below w.heap.size w w' := by
  obtain ⟨hs, lb0, lc, ms, ts, hlay0, hφ0⟩ := h
  obtain ⟨lb, hlay, hφ, h0⟩ := ObA.nilList hlay0 hφ0
  have hP : PackOk (s.l.map viewA) [] s.win s.need s.now s.l.length none := ⟨by simp, hs.five, fun r hr => rv_ok hs hr, st_wf hs, fun i k he => by cases he⟩
  have hh0 := Heap.still_ (pack_A (F := fun _ _ _ => 0) (d := d0) (t := 0) (tm := []) hP hlay h0) (no_obj none)
  have hr := upTo_spec len_runs hs.five
  refine ((callG_run (gl := []) (keep := noKeep) (fuel := 80) mixed okF_ok noSpec_ok 30 22 [.ptr 0 0] (still (hpA s.l.length none)) ([] ++ factsA s.l.length none) _ w
    (fun x w' => x = .int .i64 (s.l.length : Int) ∧ Below w.heap.size w w') hh0 (fsOk_app (fun _ h => by cases h) (factsA_ok hP hlay d0_fits (by decide))) ⟨by show 0 < 2 + s.l.length + s.l.length; omega, trivial⟩ (fun _ h => by cases h)
    (T.holds_mono (fun o ho β' w' hx hl hst hh hf _ => ?_) (T.all_holds hr))).2).mono fun x w' ⟨y, he, h1, h2⟩ => ⟨by rw [he, h1], h2⟩
  unfold isLitV at ho
  split at ho
  · rename_i x hv
    obtain rfl : x = Int.ofNat s.l.length := by simpa using ho
    exact ⟨by rw [hv]; rfl, hh.kept.to_below⟩
  · cases ho
def newS (win need : Int) : FS := ⟨win, need, 0, []⟩
theorem newS_ok {win need : Int} (hw : 1 ≤ win ∧ win ≤ maxSim) (hn : 1 ≤ need ∧ need ≤ 8) : RsOk (newS win need) :=
  ⟨hw, hn, ⟨Int.le_refl 0, (by show (0 : Int) ≤ maxSim; decide)⟩, Nat.zero_le _, fun r hr => absurd hr (List.not_mem_nil), fun r hr => absurd hr (List.not_mem_nil), List.Pairwise.nil⟩
theorem new_any {win need : Int} (hw : 1 ≤ win ∧ win ≤ maxSim) (hn : 1 ≤ need ∧ need ≤ 8) : Calls Tryd.prog 10 #[.int .i64 win, .int .i64 need] w fun e w' => ∃ b φ, e = .returned (ptrV b) ∧ ObA (newS win need) b φ w' ∧ (∀ i, φ i → w.heap.size ≤ i) ∧ Below w.heap.size w w' := by
  have h1 : (Lit.int .i64 win).wf = true := by unfold maxSim at hw; exact wfI (by omega)
  have h2 : (Lit.int .i64 need).wf = true := wfI (by omega)
  have hF : SX.FsOk (envR (fun _ _ _ => 0) d0 0 win need 0 [] [] []) newF := by
    unfold maxSim at hw
    have e12 : (E.var 12).ev (envR (fun _ _ _ => 0) d0 0 win need 0 [] [] []) = win := rfl
    have e13 : (E.var 13).ev (envR (fun _ _ _ => 0) d0 0 win need 0 [] [] []) = need := rfl
    rw [newF, fsOk_cons, fsOk_cons, fsOk_cons, fsOk_cons, fsOk_nil, lt0_ev, lt0_ev, lt0_ev, lt0_ev, e12, e13, lit_ev, lit_ev, lit_ev]
    exact ⟨⟨fun h => by omega, fun h => Bool.noConfusion h⟩, ⟨fun h => by omega, fun h => Bool.noConfusion h⟩, ⟨fun h => by omega, fun h => Bool.noConfusion h⟩, ⟨fun h => by omega, fun h => Bool.noConfusion h⟩, trivial⟩
  refine ((callG_run (gl := []) (keep := noKeep) (fuel := 80) mixed okF_ok noSpec_ok 30 10 [.int .i64 (.var 12), .int .i64 (.var 13)] .nil newF β0 w
    (fun x w' => ∃ b φ, x = ptrV b ∧ ObA (newS win need) b φ w' ∧ (∀ i, φ i → w.heap.size ≤ i) ∧ Below w.heap.size w w') (heap_nil _ _ (fun _ => False) _) hF ⟨h1, h2, trivial⟩ (fun _ h => by cases h)
    (T.holds_mono (fun o ho β' w' hx hl hst hh hf _ => ?_) (T.all_holds new_run))).2).mono fun x w' ⟨y, he, b, φ, h1, h2⟩ => ⟨b, φ, by rw [he, h1], h2⟩
  unfold newEnd at ho
  split at ho
  · rename_i k hv
    have hl := isCells_lies hh hf ho
    obtain ⟨c, hk, _⟩ := isCells_spec hh hf ho
    refine ⟨(β' k).1, fun i => i = (β' k).1, (by rw [hv]; rfl), ⟨newS_ok hw hn, 0, 0, [], [], ⟨rfl, rfl, hl, fun h => absurd rfl h, fun i r m t h => (by simp [newS] at h), fun i r t h => (by simp [newS] at h), (by simp [newS])⟩, fun i => ?_⟩, fun i hi => ?_, hh.kept.to_below⟩
    · show i = (β' k).1 ↔ i ∈ blksA [] (β' k).1 0 [] []
      simp [blksA]
    · subst hi
      rcases hh.mine k _ hk rfl rfl with h | h
      · exact h.elim
      · exact h
  · cases ho
end
/-! ### Names -/
def dsOf (l : List Int) : DS := ⟨l.headD 0, l.tail.headD 0, l.tail.tail.headD 0, l.tail.tail.tail.headD 0, l.tail.tail.tail.tail.headD 0, l.tail.tail.tail.tail.tail.headD 0, l.tail.tail.tail.tail.tail.tail.headD 0, l.tail.tail.tail.tail.tail.tail.tail.headD 0, l.tail.tail.tail.tail.tail.tail.tail.tail.headD 0, l.tail.tail.tail.tail.tail.tail.tail.tail.tail.headD 0, l.tail.tail.tail.tail.tail.tail.tail.tail.tail.tail.headD 0⟩
def ltB (a b : List Int) : Bool := decide (DsLaw.lt (dsOf a) (dsOf b))
/-- The number of the best one: so far, the others. -/
def bestI (less : Nat → Nat → Bool) : Nat → List Nat → Nat
  | b, [] => b
  | b, i :: l => bestI less (if less i b = true then i else b) l
def bestK (q : List (List Int)) : Nat := bestI (fun i b => ltB (q.getD i []) (q.getD b [])) 0 (List.range' 1 (q.length - 1))
def bestD (q : List (List Int)) : List Int := if q = [] then [] else q.getD (bestK q) []
/-- 1 for a state that may be. -/
noncomputable def goodN (x : Int) : Int := open Classical in if RsOk (dec x) then 1 else 0
def d0N : List Int := [0, 0, 0, 0, 0, 0, 0, 2, 1, 3, 0]
/-- Records of a single master, by its last times. -/
structure Solo (s : FS) (win need : Int) (ts : List Int) : Prop where
  ok : RsOk s
  win : s.win = win
  need : s.need = need
  now : s.now = ts.getLastD 0
  l : s.l = if ts = [] then [] else [ts.map fun t => ⟨d0N, t⟩]
noncomputable def soloN (x win need : Int) (ts : List Int) : Int := open Classical in if Solo (dec x) win need ts then 1 else 0
def cntN (now win : Int) (ts : List Int) : Int := ((ts.filter fun t => decide (now - t < win)).length : Int)
noncomputable def FN : Nat → Nat → List Int → Int := fun f j ns =>
  if f = 40 then code (hear (dec (ns.headD 0)) (ns.tail.take 11) (ns.getD 12 0))
  else if f = 41 then bad (dec (ns.headD 0)) (ns.tail.take 11) (ns.getD 12 0)
  else if f = 42 then ((qual (dec (ns.headD 0)) (ns.getD 1 0)).length : Int)
  else if f = 43 then ((qual (dec (ns.headD 0)) (ns.getD 1 0)).getD (ns.getD 2 0).toNat []).getD j 0
  else if f = 44 then ((dec (ns.headD 0)).l.length : Int)
  else if f = 45 then code (newS (ns.headD 0) (ns.getD 1 0))
  else if f = 46 then code (forget (dec (ns.headD 0)) (ns.getD 1 0))
  else if f = 47 then (gone (dec (ns.headD 0)) (ns.getD 1 0) : Int)
  else if f = 3 then (if ltB (ns.take 11) ((ns.drop 11).take 11) then 1 else 0)
  else if f = 48 then (bestD (qual (dec (ns.headD 0)) (ns.getD 1 0))).getD j 0
  else if f = 49 then (if qual (dec (ns.headD 0)) (ns.getD 1 0) = [] then 0 else 1)
  else if f = 50 then max 0 (dec (ns.headD 0)).now
  else if f = 51 then goodN (ns.headD 0)
  else if f = 52 then (dec (ns.headD 0)).win
  else if f = 53 then (dec (ns.headD 0)).need
  else if f = 54 then (if ns.drop 3 ∈ (qual (dec (ns.headD 0)) (ns.getD 1 0)).take (ns.getD 2 0).toNat then 1 else 0)
  else if f = 55 then soloN (ns.headD 0) (ns.getD 1 0) (ns.getD 2 0) (ns.drop 3)
  else if f = 56 then cntN (ns.headD 0) (ns.getD 1 0) (ns.drop 2)
  else 0
def hearA (x : E) (d : List E) (t : E) : List E := x :: (d ++ [t])
def hearE (x : E) (d : List E) (t : E) : E := .app 40 0 (hearA x d t)
def badE (x : E) (d : List E) (t : E) : E := .app 41 0 (hearA x d t)
def qnE (x t : E) : E := .app 42 0 [x, t]
def qfE (x t : E) (i j : Nat) : E := .app 43 j [x, t, litN i]
def lenE (x : E) : E := .app 44 0 [x]
def newE (a b : E) : E := .app 45 0 [a, b]
def forgE (x t : E) : E := .app 46 0 [x, t]
def goneE (x t : E) : E := .app 47 0 [x, t]
def nowE (x : E) : E := .app 50 0 [x]
def lessE (a b : List E) : E := .app 3 0 (a ++ b)
def goodE (x : E) : E := .app 51 0 [x]
def winE (x : E) : E := .app 52 0 [x]
def needE (x : E) : E := .app 53 0 [x]
def bstE (x t : E) (j : Nat) : E := .app 48 j [x, t]
def bokE (x t : E) : E := .app 49 0 [x, t]
/-- Is this set among the first i qualified ones? -/
def fndE (x t : E) (i : Nat) (d : List E) : E := .app 54 0 (x :: t :: litN i :: d)
section
variable {ρ : Env}
theorem evs_take {d : List E} {t : E} (h : d.length = 11) (x : E) : (E.evs ρ (hearA x d t)).headD 0 = x.ev ρ ∧ (E.evs ρ (hearA x d t)).tail.take 11 = E.evs ρ d ∧ (E.evs ρ (hearA x d t)).getD 12 0 = t.ev ρ := by
  have hl : (E.evs ρ d).length = 11 := by rw [evs_len]; exact h
  refine ⟨rfl, ?_, ?_⟩
  · show (E.evs ρ (d ++ [t])).take 11 = _
    rw [evs_app, List.take_append_of_le_length (by omega), List.take_of_length_le (by omega)]
  · show (x.ev ρ :: E.evs ρ (d ++ [t])).getD 12 0 = _
    rw [evs_app, List.getD_cons_succ, List.getD_eq_getElem?_getD, List.getElem?_append_right (by omega), hl]
    rfl
theorem hearE_ev (hf : ρ.fn = FN) {x t : E} {d : List E} (h : d.length = 11) : (hearE x d t).ev ρ = code (hear (dec (x.ev ρ)) (E.evs ρ d) (t.ev ρ)) := by
  obtain ⟨e1, e2, e3⟩ := evs_take (ρ := ρ) (t := t) h x
  show ρ.fn 40 0 (E.evs ρ (hearA x d t)) = _
  rw [hf]
  show code (hear (dec ((E.evs ρ (hearA x d t)).headD 0)) ((E.evs ρ (hearA x d t)).tail.take 11) ((E.evs ρ (hearA x d t)).getD 12 0)) = _
  rw [e1, e2, e3]
theorem badE_ev (hf : ρ.fn = FN) {x t : E} {d : List E} (h : d.length = 11) : (badE x d t).ev ρ = bad (dec (x.ev ρ)) (E.evs ρ d) (t.ev ρ) := by
  obtain ⟨e1, e2, e3⟩ := evs_take (ρ := ρ) (t := t) h x
  show ρ.fn 41 0 (E.evs ρ (hearA x d t)) = _
  rw [hf]
  show bad (dec ((E.evs ρ (hearA x d t)).headD 0)) ((E.evs ρ (hearA x d t)).tail.take 11) ((E.evs ρ (hearA x d t)).getD 12 0) = _
  rw [e1, e2, e3]
theorem qnE_ev (hf : ρ.fn = FN) (x t : E) : (qnE x t).ev ρ = ((qual (dec (x.ev ρ)) (t.ev ρ)).length : Int) := by show ρ.fn 42 0 _ = _; rw [hf]; rfl
theorem qfE_ev (hf : ρ.fn = FN) (x t : E) (i j : Nat) : (qfE x t i j).ev ρ = ((qual (dec (x.ev ρ)) (t.ev ρ)).getD i []).getD j 0 := by show ρ.fn 43 j _ = _; rw [hf]; rfl
theorem lenE_ev (hf : ρ.fn = FN) (x : E) : (lenE x).ev ρ = ((dec (x.ev ρ)).l.length : Int) := by show ρ.fn 44 0 _ = _; rw [hf]; rfl
theorem newE_ev (hf : ρ.fn = FN) (a b : E) : (newE a b).ev ρ = code (newS (a.ev ρ) (b.ev ρ)) := by show ρ.fn 45 0 _ = _; rw [hf]; rfl
theorem forgE_ev (hf : ρ.fn = FN) (x t : E) : (forgE x t).ev ρ = code (forget (dec (x.ev ρ)) (t.ev ρ)) := by show ρ.fn 46 0 _ = _; rw [hf]; rfl
theorem goneE_ev (hf : ρ.fn = FN) (x t : E) : (goneE x t).ev ρ = (gone (dec (x.ev ρ)) (t.ev ρ) : Int) := by show ρ.fn 47 0 _ = _; rw [hf]; rfl
end
theorem fndE_ev {ρ : Env} (hf : ρ.fn = FN) (x t : E) (i : Nat) (d : List E) : (fndE x t i d).ev ρ = if E.evs ρ d ∈ (qual (dec (x.ev ρ)) (t.ev ρ)).take i then 1 else 0 := by show ρ.fn 54 0 _ = _; rw [hf]; rfl
theorem bstE_ev {ρ : Env} (hf : ρ.fn = FN) (x t : E) (j : Nat) : (bstE x t j).ev ρ = (bestD (qual (dec (x.ev ρ)) (t.ev ρ))).getD j 0 := by show ρ.fn 48 j _ = _; rw [hf]; rfl
theorem bokE_ev {ρ : Env} (hf : ρ.fn = FN) (x t : E) : (bokE x t).ev ρ ≠ 0 ↔ qual (dec (x.ev ρ)) (t.ev ρ) ≠ [] := by
  show ρ.fn 49 0 _ ≠ 0 ↔ _
  rw [hf]
  show (if qual (dec (x.ev ρ)) (t.ev ρ) = [] then (0 : Int) else 1) ≠ 0 ↔ _
  split <;> simp [*]
theorem lessE_ev {ρ : Env} (hf : ρ.fn = FN) {a b : List E} (ha : a.length = 11) (hb : b.length = 11) : (lessE a b).ev ρ ≠ 0 ↔ ltB (E.evs ρ a) (E.evs ρ b) = true := by
  show ρ.fn 3 0 (E.evs ρ (a ++ b)) ≠ 0 ↔ _
  rw [hf]
  show (if ltB ((E.evs ρ (a ++ b)).take 11) (((E.evs ρ (a ++ b)).drop 11).take 11) then (1 : Int) else 0) ≠ 0 ↔ _
  have h1 : (E.evs ρ a).length = 11 := by rw [evs_len]; exact ha
  have h2 : (E.evs ρ b).length = 11 := by rw [evs_len]; exact hb
  rw [evs_app, List.take_append_of_le_length (by omega), List.take_of_length_le (by omega), List.drop_append_of_le_length (by omega), List.drop_of_length_le (by omega), List.nil_append, List.take_of_length_le (by omega)]
  split <;> simp [*]
theorem goodE_ev {ρ : Env} (hf : ρ.fn = FN) (x : E) : (goodE x).ev ρ = 1 ↔ RsOk (dec (x.ev ρ)) := by
  show ρ.fn 51 0 [x.ev ρ] = 1 ↔ _
  rw [hf]
  show goodN (x.ev ρ) = 1 ↔ _
  unfold goodN
  split <;> simp [*]
theorem winE_ev {ρ : Env} (hf : ρ.fn = FN) (x : E) : (winE x).ev ρ = (dec (x.ev ρ)).win := by show ρ.fn 52 0 _ = _; rw [hf]; rfl
theorem needE_ev {ρ : Env} (hf : ρ.fn = FN) (x : E) : (needE x).ev ρ = (dec (x.ev ρ)).need := by show ρ.fn 53 0 _ = _; rw [hf]; rfl
theorem nowE_ev {ρ : Env} (hf : ρ.fn = FN) (x : E) : (nowE x).ev ρ = max 0 (dec (x.ev ρ)).now := by show ρ.fn 50 0 _ = _; rw [hf]; rfl
/-! ### Data sets at a call -/
def takeK : List IntKind → List SV → Option (List E)
  | [], [] => some []
  | k :: ks, .int k' e :: ss => if kTag k' = kTag k then (takeK ks ss).map (e :: ·) else none
  | _, _ => none
theorem takeK_spec {ρ : Env} {β : Bm} {n : Nat} : ∀ {ks : List IntKind} {ss : List SV} {es : List E}, takeK ks ss = some es → SV.oks ρ n ss → SV.evs ρ β ss = valsK ks (E.evs ρ es) ∧ fitsK ks (E.evs ρ es) ∧ es.length = ks.length
  | [], [], es, h, _ => by obtain rfl := Option.some.inj h; exact ⟨rfl, rfl, rfl⟩
  | [], _ :: _, es, h, _ => by simp [takeK] at h
  | k :: ks, [], es, h, _ => by simp [takeK] at h
  | k :: ks, s :: ss, es, h, hok => by
    unfold takeK at h
    split at h
    · rename_i e1 e2; cases e1
    · rename_i k1 ks1 k' e ss1 h1 h2
      cases h1
      cases h2
      split at h
      · rename_i hk
        obtain rfl := kTag_inj hk
        simp only [Option.map_eq_some_iff] at h
        obtain ⟨es', he, rfl⟩ := h
        obtain ⟨a1, a2, a3⟩ := takeK_spec (β := β) he hok.2
        refine ⟨?_, ⟨hok.1, by simp [E.evs], a2⟩, by simp [a3]⟩
        simp only [SV.evs, SV.ev, valsK, E.evs, a1, List.headD_cons, List.tail_cons]
      · cases h
    · cases h
def canons (fs : Fs) (es : List E) : List E := es.map (canon fs)
theorem canons_ev {ρ : Env} {fs : Fs} (hf : SX.FsOk ρ fs) : ∀ es : List E, E.evs ρ (canons fs es) = E.evs ρ es
  | [] => rfl
  | e :: es => by
    have := canons_ev hf es
    unfold canons at *
    simp only [List.map_cons, E.evs, this, canon_ev hf]
def resQ (hp : Hp) (fs : Fs) (x t : E) (m : Nat) : Out :=
  match m with
  | 0 => ⟨.raw (.slice none 0 0), hp, fs⟩
  | m + 1 => ⟨.slice hp.n 0 (m + 1) none, hp.push ⟨true, .cells ((List.range (m + 1)).flatMap fun i => dsS (qfE x t i)) 32 12⟩, fs⟩
/-- By the number of qualified data sets: r numbers are left, from m on. -/
def qualT (hp : Hp) (x t : E) : Nat → Nat → Fs → T Out
  | 0, m, fs => .ok (resQ hp (learn fs (eq0 (qnE x t) (litN m)) true) x t m)
  | r + 1, m, fs => SX.split fs (eq0 (qnE x t) (litN m)) (fun fs => .ok (resQ hp fs x t m)) (fun fs => qualT hp x t r (m + 1) fs)
def isNewR (a b : E) (hp : Hp) (fs : Fs) : T Out :=
  SX.split fs (lt0 a (.lit 1)) (fun fs => .ok ⟨.raw (.pointer none), hp, fs⟩) fun fs => SX.split fs (lt0 (.lit 1125899906842624) a) (fun fs => .ok ⟨.raw (.pointer none), hp, fs⟩) fun fs =>
    SX.split fs (lt0 b (.lit 1)) (fun fs => .ok ⟨.raw (.pointer none), hp, fs⟩) fun fs => SX.split fs (lt0 (.lit 8) b) (fun fs => .ok ⟨.raw (.pointer none), hp, fs⟩) fun fs => .ok ⟨.ptr hp.n 0, hp.push ⟨true, .obj 1 [newE a b]⟩, fs⟩
def objOf (q : Nat) (hp : Hp) (k : Nat) : Option E :=
  match hp.at k with
  | some ⟨true, .obj q' [x]⟩ => if q' = q then some x else none
  | _ => none
theorem objOf_spec {q : Nat} {hp : Hp} {k : Nat} {x : E} (h : objOf q hp k = some x) : hp.at k = some ⟨true, .obj q [x]⟩ := by
  unfold objOf at h
  split at h
  · rename_i q' x' hk
    split at h
    · rename_i hq
      subst hq
      obtain rfl := Option.some.inj h
      exact hk
    · cases h
  · cases h
def spHear : SpcT := fun f args hp fs => match args with
  | [.ptr k 0, .agg ss, .int .i64 t] => if f = 13 then (match objOf 1 hp k, takeK ks11 ss with
    | some x, some es => some (SX.split fs (eq0 (badE (canon fs x) (canons fs es) (canon fs t)) (.lit 0))
        (fun fs' => .ok ⟨.int .i64 (.lit 0), hp.put k ⟨true, .obj 1 [hearE (canon fs x) (canons fs es) (canon fs t)]⟩, fs'⟩)
        (fun fs' => .ok ⟨.int .i64 (badE (canon fs x) (canons fs es) (canon fs t)), hp.put k ⟨true, .obj 1 [canon fs x]⟩, fs'⟩))
    | _, _ => none) else none
  | _ => none
def spQual : SpcT := fun f args hp fs => match args with
  | [.ptr k 0, .int .i64 t] => if f = 18 then (match objOf 1 hp k with
    | some x => some (qualT hp (canon fs x) (canon fs t) 5 0 fs)
    | none => none)
    else if f = 20 then (match objOf 1 hp k with
    | some x => some (.ok ⟨.int .i64 (goneE (canon fs x) (canon fs t)), hp.put k ⟨true, .obj 1 [forgE (canon fs x) (canon fs t)]⟩, fs⟩)
    | none => none) else none
  | _ => none
def spLen : SpcT := fun f args hp fs => match args with
  | [.ptr k 0] => if f = 22 then (match objOf 1 hp k with
    | some x => some (.ok ⟨.int .i64 (lenE (canon fs x)), hp, fs⟩)
    | none => none) else none
  | _ => none
def spNew : SpcT := fun f args hp fs => match args with
  | [.int .i64 a, .int .i64 b] => if f = 10 then some (isNewR (canon fs a) (canon fs b) hp fs) else none
  | _ => none
section
variable {ρ : Env} {w0 w : World} {M : Nat → Prop} {gl : Gl} {β : Bm} {hp : Hp} {fs : Fs}
/-- The records behind an object. -/
theorem obj_recs {φ : Nat → Nat → Prop} (ho : ObjsOk ρ w0 M β hp φ w) {k : Nat} {x : E} (hk : objOf 1 hp k = some x) : ObA (dec (x.ev ρ)) (β k).1 (φ k) w ∧ code (dec (x.ev ρ)) = x.ev ρ := by
  have h := ho.has k _ 1 [x] (objOf_spec hk) rfl
  obtain ⟨s, hs, h2⟩ : ∃ s, code s = x.ev ρ ∧ ObA s (β k).1 (φ k) w := h
  rw [← hs, dec_code]
  exact ⟨h2, rfl⟩
theorem stay_put {k : Nat} {c c' : Bx} (hk : hp.at k = some ⟨true, c⟩) : Stay hp (hp.put k ⟨true, c'⟩) := fun j b hj hr => by
  by_cases he : j = k
  · rw [he, hk] at hj
    obtain rfl := Option.some.inj hj
    cases hr
  · rw [Hp.at_put_ne _ he]; exact hj
theorem turn_out {φ : Nat → Nat → Prop} {w' : World} {k : Nat} {x y : E} {s' : FS} (hh : Heap ρ w0 M β hp w) (ho : ObjsOk ρ w0 M β hp φ w) (hk : objOf 1 hp k = some x) (hT : Turns s' (β k).1 (φ k) w w') (hy : y.ev ρ = code s') : Heap ρ w0 M β (hp.put k ⟨true, .obj 1 [y]⟩) w' := by
  obtain ⟨φ', h1, h2, h3⟩ := hT
  refine Heap.turn_ hh ho (objOf_spec hk) (φ' := φ') ?_ h2 h3
  exact (⟨s', hy.symm, h1⟩ : ∃ s, code s = y.ev ρ ∧ ObA s (β k).1 φ' w')
theorem spHear_ok (hf : ρ.fn = FN) : SpecOkT Tryd.prog ρ w0 M gl spHear := fun f args hp fs t ht β w K hh hfs ha hg hK => by
  unfold spHear at ht
  split at ht
  · rename_i k ss tm
    split at ht
    · rename_i hfe
      subst hfe
      split at ht
      · rename_i x es hx hes
        obtain rfl := Option.some.inj ht
        obtain ⟨φ, ho⟩ := hh.objs
        obtain ⟨hob, hc⟩ := obj_recs ho hx
        obtain ⟨t1, t2, t3⟩ := takeK_spec (β := β) hes ha.2.1
        have hargs : SV.evs ρ β [.ptr k 0, .agg ss, .int .i64 tm] = [ptrV (β k).1, .agg (dsVals (E.evs ρ es)).toArray, .int .i64 (tm.ev ρ)] := by
          simp only [SV.evs, SV.ev, t1]; rfl
        rw [hargs]
        have hl : (canons fs es).length = 11 := by unfold canons; rw [List.length_map, t3]; rfl
        have hbad : (badE (canon fs x) (canons fs es) (canon fs tm)).ev ρ = bad (dec (x.ev ρ)) (E.evs ρ es) (tm.ev ρ) := by rw [badE_ev hf hl, canons_ev hfs, canon_ev hfs, canon_ev hfs]
        obtain ⟨fs', hf', hc2⟩ := split_holds hfs hK
        rcases hc2 with ⟨c, h2⟩ | ⟨c, h2⟩
        · have hz : bad (dec (x.ev ρ)) (E.evs ρ es) (tm.ev ρ) = 0 := by rw [← hbad]; exact (eqk_ev (ρ := ρ) .i64 _ (.lit 0)).1 c
          refine (hear_any hob t2 ha.2.2.1).mono fun e w' ⟨he, hT⟩ => ⟨_, ?_, h2 β w' (Ext.refl _ _) (Nat.le_refl _) (stay_put (objOf_spec hx)) (turn_out hh ho hx hT ?_) hf' (by show (Lit.int .i64 0).wf = true; decide)⟩
          · rw [he, hz]; rfl
          · rw [hearE_ev hf hl, canons_ev hfs, canon_ev hfs, canon_ev hfs]
        · have hz : bad (dec (x.ev ρ)) (E.evs ρ es) (tm.ev ρ) ≠ 0 := fun e => (eqk_ev (ρ := ρ) .i64 (badE (canon fs x) (canons fs es) (canon fs tm)) (.lit 0)).2 (by rw [hbad, e]; rfl) c
          have hsame : hear (dec (x.ev ρ)) (E.evs ρ es) (tm.ev ρ) = dec (x.ev ρ) := by unfold hear; rw [if_neg hz]
          refine (hear_any hob t2 ha.2.2.1).mono fun e w' ⟨he, hT⟩ => ⟨_, ?_, h2 β w' (Ext.refl _ _) (Nat.le_refl _) (stay_put (objOf_spec hx)) (turn_out hh ho hx hT ?_) hf' ?_⟩
          · rw [he]
            show Ending.returned (.int .i64 _) = Ending.returned (.int .i64 ((badE _ _ _).ev ρ))
            rw [hbad]
          · rw [canon_ev hfs, hsame, hc]
          · show (Lit.int .i64 ((badE _ _ _).ev ρ)).wf = true
            rw [hbad]
            unfold bad
            repeat' split
            all_goals decide
      · cases ht
    · cases ht
  · cases ht
theorem spLen_ok (hf : ρ.fn = FN) : SpecOkT Tryd.prog ρ w0 M gl spLen := fun f args hp fs t ht β w K hh hfs ha hg hK => by
  unfold spLen at ht
  split at ht
  · rename_i k
    split at ht
    · rename_i hfe
      subst hfe
      split at ht
      · rename_i x hx
        obtain rfl := Option.some.inj ht
        obtain ⟨φ, ho⟩ := hh.objs
        obtain ⟨hob, hc⟩ := obj_recs ho hx
        have h5 := hob.1.five
        refine (len_any hob).mono fun e w' ⟨he, hb⟩ => ⟨_, ?_, hK β w' (Ext.refl _ _) (Nat.le_refl _) (Stay.refl _) (hh.below hb) hfs ?_⟩
        · rw [he]
          show Ending.returned (.int .i64 _) = Ending.returned (.int .i64 ((lenE _).ev ρ))
          rw [lenE_ev hf, canon_ev hfs]
        · show (Lit.int .i64 ((lenE _).ev ρ)).wf = true
          rw [lenE_ev hf, canon_ev hfs]
          exact wfI (by omega)
      · cases ht
    · cases ht
  · cases ht
end
end Go.Proofs.YtbjficjcgpgcbaaDoor
