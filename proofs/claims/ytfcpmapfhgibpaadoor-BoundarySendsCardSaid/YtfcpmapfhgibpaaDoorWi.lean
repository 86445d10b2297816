/- Forget, Qualified; contracts that come to ways. -/
import Derived.Test.YtfcpmapfhgibpaaDoorWh
namespace Go.Proofs.YtfcpmapfhgibpaaDoor
set_option maxRecDepth 100000
open Go Go.RowKit SX Frm Frn
set_option linter.unusedVariables false
set_option linter.unusedSimpArgs false

/-! ### Decided by what is known -/
def isIn (test : Nat → E) (want : Bool) (fs : Fs) (i : Nat) : Bool := decideE fs (test i) == some want
def allDec (test : Nat → E) (n : Nat) (fs : Fs) : Bool := (List.range n).all fun i => match decideE fs (test i) with
  | some _ => true
  | none => false
theorem isIn_spec {ρ : Env} {test : Nat → E} {want : Bool} {n : Nat} {fs : Fs} (hf : SX.FsOk ρ fs) (h : allDec test n fs = true) {i : Nat} (hi : i < n) : isIn test want fs i = true ↔ decide ((test i).ev ρ ≠ 0) = want := by
  have := List.all_eq_true.1 h i (List.mem_range.2 hi)
  unfold isIn
  cases hd : decideE fs (test i) with
  | none => rw [hd] at this; cases this
  | some b =>
    have hb := decideE_spec hf hd
    rw [hb]
    simp
theorem filter_range {α : Type} (dflt : α) (p : α → Bool) : ∀ (l : List α) (n : Nat) (q : Nat → Bool), l.length = n → (∀ i, i < n → q i = p (l.getD i dflt)) → ((List.range n).filter q).map (fun i => l.getD i dflt) = l.filter p := by
  intro l
  induction l with
  | nil => intro n q hn h; subst hn; rfl
  | cons x l ih =>
    intro n q hn h
    obtain ⟨m, rfl⟩ : ∃ m, n = m + 1 := ⟨l.length, by simpa using hn.symm⟩
    rw [List.range_succ_eq_map, List.filter_cons]
    have h0 := h 0 (by omega)
    have hs := ih m (fun i => q (i + 1)) (by simpa using hn) (fun i hi => by have := h (i + 1) (by omega); simpa using this)
    have e : ((List.range m).map Nat.succ).filter q = ((List.range m).filter fun i => q (i + 1)).map Nat.succ := by
      rw [List.filter_map]; rfl
    rw [e]
    simp only [List.getD_cons_zero] at h0
    have e2 : (((List.range m).filter fun i => q (i + 1)).map Nat.succ).map (fun i => (x :: l).getD i dflt) = ((List.range m).filter fun i => q (i + 1)).map fun i => l.getD i dflt := by
      rw [List.map_map]; rfl
    rw [List.filter_cons, ← h0]
    split
    · rw [List.map_cons, e2, hs]; rfl
    · rw [e2, hs]

/-! ### Forget -/
def argsT : List SV := [.ptr 0 0, .int .i64 (.var 11)]
def keepE (i : Nat) : E := lt0 (.lit 0) (recE i (.var 11))
def keptI (n : Nat) (o : Out) : List Nat := (List.range n).filter fun i => isIn keepE true o.fs i
def endC (n : Nat) (f : Option (Nat × Nat)) (e : E) (ws : Out → List Wr) (v : Out → SV) (chk : Out → Bool) (o : Out) : Bool :=
  (chk o && (SV.fit o.fs (fun i => .var i) id o.hp.n (v o) o.v && (v o).flat && Nat.beq (rdKms o.hp).length (ws o).length && picOk n f e (mkPic o.hp (ws o)) o.hp o.fs)) || noWay o.fs
noncomputable def forgB (n : Nat) : Bool := (runG (spRecent n) 37 argsT n none []).all (endC n none (.var 14) (fun o => (keptI n o).map oldW) (fun o => .int .i64 (.lit (Int.ofNat (n - (keptI n o).length)))) (fun o => allDec keepE n o.fs))
section
variable {F : Nat → Nat → List Int → Int} {d : List Int} {t win need now : Int} {l : List RV} {ts : List (Nat × Nat)} {tm : List Int} {b lb lc n : Nat} {ms : List Nat} {w w' : World} {f : Option (Nat × Nat)} {e : E}
/-- A method that may change the records; its ends are told by what is known. -/
theorem chg_C {sp : Spc} {g : Nat} {args : List SV} {p : Fs} {ws : Out → List Wr} {v : Out → SV} {chk : Out → Bool} (hP : PackOk l tm win need now n f) (h : LayA win need now l b lb lc ms ts w) (h0 : l = [] → lb = w.heap.size) (hd : fitsK ks11 d) (ht : (Lit.int .i64 t).wf = true)
    (hsp : SpecOk Tryd.prog (envR F d t win need now l ts tm) w (fun i => ∃ k, k < 2 + n + n ∧ (boxA n f k).rw = true ∧ (bmA n f b lb lc ms ts k).1 = i) [] sp) (hp : SX.FsOk (envR F d t win need now l ts tm) p) (hargs : SV.oks (envR F d t win need now l ts tm) (2 + n + n) args) (hr : (runG sp g args n f p).all (endC n f e ws v chk) = true) :
    Calls Tryd.prog g (SV.evs (envR F d t win need now l ts tm) (bmA n f b lb lc ms ts) args).toArray w fun x w' => ∃ o, SX.FsOk (envR F d t win need now l ts tm) o.fs ∧ chk o = true ∧ x = .returned ((v o).ev (envR F d t win need now l ts tm) β0) ∧
      (∃ lb' lc' ms' ts', LayA win need (e.ev (envR F d t win need now l ts tm)) ((ws o).map (Wr.view (envR F d t win need now l ts tm) l)) b lb' lc' ms' ts' w' ∧ ∀ i ∈ blksA ((ws o).map (Wr.view (envR F d t win need now l ts tm) l)) b lb' ms' ts', i ∈ blksA l b lb ms ts ∨ w.heap.size ≤ i) ∧
      Kept w (fun i => i ∈ blksA l b lb ms ts) w' := by
  refine ((callG_run (gl := []) (keep := noKeep) (fuel := 80) mixed okF_ok hsp 30 g args (hpA n f) (p ++ factsA n f) _ w (fun x w' => ∃ o, SX.FsOk (envR F d t win need now l ts tm) o.fs ∧ chk o = true ∧ x = (v o).ev (envR F d t win need now l ts tm) β0 ∧
      (∃ lb' lc' ms' ts', LayA win need (e.ev (envR F d t win need now l ts tm)) ((ws o).map (Wr.view (envR F d t win need now l ts tm) l)) b lb' lc' ms' ts' w' ∧ ∀ i ∈ blksA ((ws o).map (Wr.view (envR F d t win need now l ts tm) l)) b lb' ms' ts', i ∈ blksA l b lb ms ts ∨ w.heap.size ≤ i) ∧
      Kept w (fun i => i ∈ blksA l b lb ms ts) w') (pack_A hP h h0) (fsOk_app hp (factsA_ok hP h hd ht)) hargs (fun _ h => by cases h)
    (T.holds_mono (fun o ho β' w' hx hl hs hh hf _ => ?_) (T.all_holds hr))).2).mono fun x w' ⟨y, he, o, h1, hc, h2, h3⟩ => ⟨o, h1, hc, by rw [he, h2], h3⟩
  unfold endC at ho
  rw [Bool.or_eq_true] at ho
  rcases ho with ho | ho
  rotate_left
  · exact (noWay_spec hf ho).elim
  simp only [Bool.and_eq_true, beq_iff, decide_eq_true_eq] at ho
  obtain ⟨oc, ⟨⟨o1, o2⟩, o3⟩, o4⟩ := ho
  obtain ⟨e1, _⟩ := SV.fit_spec (β := β') (m := o.hp.n) hf _ _ o1
  obtain ⟨u1, u2⟩ := unpack_A hP h h0 hh hx hs hf o4
  have ev : (mkPic o.hp (ws o)).rs.map (Pr.view (envR F d t win need now l ts tm) l) = (ws o).map (Wr.view (envR F d t win need now l ts tm) l) := zipP_view _ _ _ _ _ o3
  rw [ev] at u1 u2
  refine ⟨o, hf, oc, ?_, ⟨_, _, _, _, u1, u2⟩, ⟨hh.kept.os, hh.kept.tape, hh.kept.output, hh.kept.size, fun i hi hn => hh.kept.block i hi fun hM => hn (maskA h hP.len hM)⟩⟩
  rw [e1, SV.ev_flat β0 (fun k => β' (id k)) (v o) o2]
  rfl
end
/-! ### Methods that only read -/
def still (hp : Hp) : Hp := ⟨hp.n, fun k => ⟨false, (hp.box k).c⟩⟩
theorem Heap.still_ {ρ : Env} {w : World} {M : Nat → Prop} {β : Bm} {hp : Hp} (h : Heap ρ w M β hp w) (ho : ∀ k, k < hp.n → (hp.box k).c.isObj = false) : Heap ρ w (fun _ => False) β (still hp) w := by
  have key : ∀ (k : Nat) (b : Box), (still hp).at k = some b → k < hp.n ∧ b = ⟨false, (hp.box k).c⟩ ∧ hp.at k = some (hp.box k) := fun k b hk => by
    obtain ⟨h1, h2⟩ := Hp.at_some.1 hk
    exact ⟨h1, h2.symm, Hp.at_some.2 ⟨h1, rfl⟩⟩
  refine ⟨fun k b hk => ?_, fun j k b b' hj hk hb hb' e => ?_, fun k b hk hr _ => ?_, fun k b hk => ?_, Kept.refl w _, fun k b hk ha => ?_, ObjsOk.none fun k b hk => ?_⟩
  · obtain ⟨_, rfl, h2⟩ := key k b hk; exact h.lies k (hp.box k) h2
  · obtain ⟨_, rfl, h2⟩ := key j b hj
    obtain ⟨_, rfl, h3⟩ := key k b' hk
    exact h.inj j k (hp.box j) (hp.box k) h2 h3 hb hb' e
  · obtain ⟨_, rfl, h2⟩ := key k b hk; cases hr
  · obtain ⟨_, rfl, h2⟩ := key k b hk; exact h.good k (hp.box k) h2
  · obtain ⟨_, rfl, h2⟩ := key k b hk; exact ⟨(h.arrs k (hp.box k) h2 ha).1, fun e => e⟩
  · obtain ⟨h1, rfl, h2⟩ := key k b hk; exact ho k h1
noncomputable def runS (sp : Spc) (g : Nat) (args : List SV) (n : Nat) (p : Fs) : T Out := callG Tryd.prog [] okF sp noKeep 80 30 g args (still (hpA n none)) (p ++ factsA n none)
def lessF (i : Nat) : E := lt0 (recE i (.var 11)) (.var 13)
def qualI (n : Nat) (o : Out) : List Nat := (List.range n).filter fun i => isIn lessF false o.fs i
def qualEnd (n : Nat) (o : Out) : Bool :=
  allDec lessF n o.fs && (match qualI n o with
    | [] => match o.v with
      | .raw (.slice none 0 0) => true
      | _ => false
    | i :: js => match o.v with
      | .slice k 0 m none => Nat.beq m (i :: js).length && isCells o.hp o.fs k 35 12 ((i :: js).flatMap fun i => dsS (recVar i))
      | _ => false)
noncomputable def qualB (n : Nat) : Bool := (runS (spRecent n) 56 argsT n []).all (qualEnd n)
set_option maxRecDepth 1000000 in
theorem forg_0 : forgB 0 = true := by kernel_rfl
set_option maxRecDepth 1000000 in
theorem forg_1 : forgB 1 = true := by kernel_rfl
set_option maxRecDepth 1000000 in
theorem qual_0 : qualB 0 = true := by kernel_rfl
set_option maxRecDepth 1000000 in
theorem qual_1 : qualB 1 = true := by kernel_rfl
end Go.Proofs.YtfcpmapfhgibpaaDoor
namespace Go.Proofs.YtfcpmapfhgibpaaDoor
set_option maxRecDepth 100000
open Go Go.RowKit SX Frm Frn
set_option linter.unusedVariables false
set_option maxRecDepth 1000000 in
theorem forg_2 : forgB 2 = true := by kernel_rfl
set_option maxRecDepth 1000000 in
theorem qual_2 : qualB 2 = true := by kernel_rfl
set_option maxRecDepth 1000000 in
theorem forg_3 : forgB 3 = true := by kernel_rfl
set_option maxRecDepth 1000000 in
theorem qual_3 : qualB 3 = true := by kernel_rfl
set_option maxRecDepth 1000000 in
theorem forg_4 : forgB 4 = true := by kernel_rfl
set_option maxRecDepth 1000000 in
theorem qual_4 : qualB 4 = true := by kernel_rfl
end Go.Proofs.YtfcpmapfhgibpaaDoor
namespace Go.Proofs.YtfcpmapfhgibpaaDoor
set_option maxRecDepth 100000
open Go Go.RowKit SX Frm Frn
set_option linter.unusedVariables false
set_option maxRecDepth 1000000 in
theorem forg_5 : forgB 5 = true := by kernel_rfl
set_option maxRecDepth 1000000 in
theorem qual_5 : qualB 5 = true := by kernel_rfl
end Go.Proofs.YtfcpmapfhgibpaaDoor
namespace Go.Proofs.YtfcpmapfhgibpaaDoor
set_option maxRecDepth 100000
open Go Go.RowKit SX Frm Frn
set_option linter.unusedVariables false
set_option linter.unusedSimpArgs false

theorem forg_all {n : Nat} (h5 : n ≤ 5) : forgB n = true := by
  match n, h5 with
  | 0, _ => exact forg_0
  | 1, _ => exact forg_1
  | 2, _ => exact forg_2
  | 3, _ => exact forg_3
  | 4, _ => exact forg_4
  | 5, _ => exact forg_5
theorem qual_all {n : Nat} (h5 : n ≤ 5) : qualB n = true := by
  match n, h5 with
  | 0, _ => exact qual_0
  | 1, _ => exact qual_1
  | 2, _ => exact qual_2
  | 3, _ => exact qual_3
  | 4, _ => exact qual_4
  | 5, _ => exact qual_5
/-- New memory that holds data sets, or nil. -/
def NewSets (l : List (List Int)) (w w' : World) (e : Ending) : Prop :=
  (l = [] ∧ e = .returned (.slice none 0 0)) ∨ ∃ blk cap rest, l ≠ [] ∧ e = .returned (slV blk l.length cap) ∧ w.heap.size ≤ blk ∧ w'.heap[blk]? = some (.cells ((l.map dsVals).flatten ++ rest).toArray 35 (0, 0)) ∧ l.length * 11 + rest.length = cap * 11
def d0 : List Int := [0, 0, 0, 0, 0, 0, 0, 0, 0, 0, 0]
theorem d0_fits : fitsK ks11 d0 := by
  refine ⟨by decide, by decide, by decide, by decide, by decide, by decide, by decide, by decide, by decide, by decide, by decide, by decide, by decide, by decide, by decide, by decide, by decide, by decide, by decide, by decide, by decide, by decide, rfl⟩
section
variable {s : FS} {b : Nat} {φ : Nat → Prop} {w w' : World}
theorem rsOk_forget (hs : RsOk s) (t : Int) : RsOk (forget s t) :=
  ⟨hs.win, hs.need, hs.now, Nat.le_trans (List.length_filter_le _ _) hs.five, fun r hr => hs.some r (List.mem_filter.1 hr).1, fun r hr => hs.msgs r (List.mem_filter.1 hr).1, hs.apart.sublist List.filter_sublist⟩
theorem newer_recent (s : FS) (t : Int) (r : List Msg) : newer t s.now s.win (viewA r).2 = recent s t r := by
  unfold newer recent viewA isNew
  rw [List.filter_map, List.length_map]
  rfl
theorem recE_ev {ρ : Env} {l : List RV} {now win t : Int} (hf : ρ.fn = FR l now win) {a : E} (ha : a.ev ρ = t) (i : Nat) : (recE i a).ev ρ = (newer t now win (l.getD i rec0).2 : Int) := by
  show ρ.fn 30 0 [Int.ofNat i, a.ev ρ] = _
  rw [hf, ha]; rfl
theorem forget_any (h : ObA s b φ w) {t : Int} (ht : (Lit.int .i64 t).wf = true) :
    Calls Tryd.prog 37 #[ptrV b, .int .i64 t] w fun e w' => e = .returned (.int .i64 (gone s t : Int)) ∧ Turns (forget s t) b φ w w' := by
  obtain ⟨hs, lb0, lc, ms, ts, hlay0, hφ0⟩ := h
  obtain ⟨lb, hlay, hφ, h0⟩ := ObA.nilList hlay0 hφ0
  have hw := st_wf hs
  have hlen : (s.l.map viewA).length = s.l.length := by simp
  have hP : PackOk (s.l.map viewA) [] s.win s.need s.now s.l.length none := ⟨hlen, hs.five, fun r hr => rv_ok hs hr, hw, fun i k he => by cases he⟩
  have hrun := chg_C (F := FR (s.l.map viewA) s.now s.win) (t := t) hP hlay h0 d0_fits ht (spRecent_ok hlen hs.five (fun r hr => rv_ok hs hr) hs.win hs.now) (p := []) (fun _ h => by cases h) (args := argsT) ⟨by show 0 < _; omega, ht, trivial⟩ (forg_all hs.five)
  refine hrun.mono fun x w' ⟨o, ho, hc, hx, hl, hk⟩ => ?_
  have hin : ∀ i, i < s.l.length → isIn keepE true o.fs i = decide (0 < recent s t (s.l.getD i [])) := fun i hi => by
    have h1 := isIn_spec (want := true) ho hc hi
    have h2 : (keepE i).ev (envR (FR (s.l.map viewA) s.now s.win) d0 t s.win s.need s.now (s.l.map viewA) ts []) ≠ 0 ↔ 0 < recent s t (s.l.getD i []) := by
      unfold keepE
      rw [lt0_ev, recE_ev rfl (t := t) rfl, view_get hi, newer_recent, lit_ev]
      omega
    rw [decide_eq_true_iff, h2] at h1
    by_cases hq : 0 < recent s t (s.l.getD i [])
    · rw [decide_eq_true hq, h1.2 hq]
    · rw [decide_eq_false hq]
      cases hz : isIn keepE true o.fs i with
      | false => rfl
      | true => exact absurd (h1.1 hz) hq
  have hkept : (keptI s.l.length o).map (fun i => s.l.getD i []) = Frm.kept s t := filter_range [] (fun r => decide (0 < recent s t r)) s.l s.l.length _ rfl hin
  have hnum : (keptI s.l.length o).length = (Frm.kept s t).length := by rw [← hkept, List.length_map]
  refine ⟨?_, Turns.of (rsOk_forget hs t) ?_ hφ hl hk⟩
  · rw [hx]
    show Ending.returned (.int .i64 (Int.ofNat (s.l.length - (keptI s.l.length o).length))) = _
    rw [hnum]; rfl
  · show (Frm.kept s t).map viewA = _
    rw [← hkept, List.map_map, List.map_map]
    refine List.map_congr_left fun i hi => ?_
    have hi' : i < s.l.length := List.mem_range.1 (List.mem_filter.1 hi).1
    show viewA (s.l.getD i []) = Wr.view _ _ (oldW i)
    rw [old_view hP hi', view_get hi']
theorem sets_ev {ρ : Env} {β : Bm} (g : Nat → List Int) : ∀ js : List Nat, (∀ i ∈ js, ∀ q, q < 11 → (recVar i q).ev ρ = (g i).getD q 0) → SV.evs ρ β (js.flatMap fun i => dsS (recVar i)) = ((js.map g).map dsVals).flatten
  | [], _ => rfl
  | i :: js, h => by
    rw [List.flatMap_cons, evs_append, sets_ev g js fun j hj => h j (List.mem_cons_of_mem _ hj), dsS_ev (h i (List.mem_cons_self ..))]
    rfl
theorem sets_len : ∀ js : List Nat, (js.flatMap fun i => dsS (recVar i)).length = js.length * 11
  | [] => rfl
  | i :: js => by
    rw [List.flatMap_cons, List.length_append, sets_len js, List.length_cons]
    show 11 + _ = _
    omega
theorem qual_any (h : ObA s b φ w) {t : Int} (ht : (Lit.int .i64 t).wf = true) :
    Calls Tryd.prog 56 #[ptrV b, .int .i64 t] w fun e w' => NewSets (qual s t) w w' e ∧ Below w.heap.size w w' := by
  obtain ⟨hs, lb0, lc, ms, ts, hlay0, hφ0⟩ := h
  obtain ⟨lb, hlay, hφ, h0⟩ := ObA.nilList hlay0 hφ0
  have hw := st_wf hs
  have hlen : (s.l.map viewA).length = s.l.length := by simp
  have hP : PackOk (s.l.map viewA) [] s.win s.need s.now s.l.length none := ⟨hlen, hs.five, fun r hr => rv_ok hs hr, hw, fun i k he => by cases he⟩
  have hh0 := Heap.still_ (pack_A (F := FR (s.l.map viewA) s.now s.win) (d := d0) (t := t) (tm := []) hP hlay h0) (fun k hk => by
    rcases box_cases hk with rfl | rfl | ⟨i, hi, rfl⟩ | ⟨i, hi, rfl⟩
    · rfl
    · by_cases hz : s.l.length = 0
      · show (boxA s.l.length none 1).c.isObj = false
        rw [hz]; rfl
      · show (boxA s.l.length none 1).c.isObj = false
        rw [boxA_1 (by omega)]; rfl
    · show (boxA s.l.length none (2 + i)).c.isObj = false
      rw [boxA_r hi]; rfl
    · show (boxA s.l.length none (2 + s.l.length + i)).c.isObj = false
      rw [boxA_t]; rfl)
  have hargs : SV.oks (envR (FR (s.l.map viewA) s.now s.win) d0 t s.win s.need s.now (s.l.map viewA) ts []) (2 + s.l.length + s.l.length) argsT := ⟨by show 0 < _; omega, ht, trivial⟩
  refine ((callG_run (gl := []) (keep := noKeep) (fuel := 80) mixed okF_ok (spRecent_ok hlen hs.five (fun r hr => rv_ok hs hr) hs.win hs.now) 30 56 argsT (still (hpA s.l.length none)) ([] ++ factsA s.l.length none) _ w
    (fun x w' => NewSets (qual s t) w w' (.returned x) ∧ Below w.heap.size w w') hh0 (fsOk_app (fun _ h => by cases h) (factsA_ok hP hlay d0_fits ht)) hargs (fun _ h => by cases h)
    (T.holds_mono (fun o ho β' w' hx hl hst hh hf _ => ?_) (T.all_holds (qual_all hs.five)))).2).mono fun x w' ⟨y, he, h1, h2⟩ => ⟨by rw [he]; exact h1, h2⟩
  unfold qualEnd at ho
  rw [Bool.and_eq_true] at ho
  obtain ⟨hc, ho⟩ := ho
  refine ⟨?_, hh.kept.to_below⟩
  have hin : ∀ i, i < s.l.length → isIn lessF false o.fs i = decide (s.need ≤ (recent s t (s.l.getD i []) : Int)) := fun i hi => by
    have h1 := isIn_spec (want := false) hf hc hi
    have h2 : (lessF i).ev (envR (FR (s.l.map viewA) s.now s.win) d0 t s.win s.need s.now (s.l.map viewA) ts []) ≠ 0 ↔ (recent s t (s.l.getD i []) : Int) < s.need := by
      unfold lessF
      rw [lt0_ev, recE_ev rfl (t := t) rfl, view_get hi, newer_recent]
      rfl
    rw [decide_eq_false_iff_not, h2] at h1
    by_cases hq : s.need ≤ (recent s t (s.l.getD i []) : Int)
    · rw [decide_eq_true hq, h1.2 (by omega)]
    · rw [decide_eq_false hq]
      cases hz : isIn lessF false o.fs i with
      | false => rfl
      | true => exact absurd (h1.1 hz) (by omega)
  have hq : (qualI s.l.length o).map (fun i => s.l.getD i []) = quals s t := filter_range [] (fun r => decide (s.need ≤ (recent s t r : Int))) s.l s.l.length _ rfl hin
  have hqs : qual s t = (qualI s.l.length o).map fun i => (lastM (s.l.getD i [])).d := by
    unfold qual
    rw [← hq, List.map_map]; rfl
  have hmem : ∀ i ∈ qualI s.l.length o, i < s.l.length := fun i hi => List.mem_range.1 (List.mem_filter.1 hi).1
  rw [hqs]
  split at ho
  · rename_i hnil
    rw [hnil]
    split at ho
    · rename_i hv
      rw [hv]
      exact .inl ⟨rfl, rfl⟩
    · cases ho
  · rename_i i js hcons
    rw [hcons] at hmem ⊢
    split at ho
    · rename_i k m hv
      rw [Bool.and_eq_true, beq_iff, decide_eq_true_eq] at ho
      obtain ⟨hm, ho⟩ := ho
      obtain ⟨c, hk, _⟩ := isCells_spec hh hf ho
      unfold isCells at ho
      rw [hk] at ho
      simp only [Bool.and_eq_true] at ho
      obtain ⟨e1, _⟩ := SV.fitL_spec (β := β') (m := o.hp.n) hf _ _ ho.2
      rw [envSub_var] at e1
      have e1 : SV.evs _ β' c = SV.evs _ β' ((i :: js).flatMap fun i => dsS (recVar i)) := e1
      obtain ⟨rest, r1, r2⟩ := hh.lies k _ hk
      have hlc : c.length = (i :: js).length * 11 := by
        have := congrArg List.length e1
        rw [SV.evs_map, SV.evs_map, List.length_map, List.length_map, sets_len] at this
        exact this
      rw [e1, sets_ev (fun i => (lastM (s.l.getD i [])).d) (i :: js) (fun j hj q hq' => by
        have hj' := hmem j hj
        rw [rec_d j (by have := hs.five; omega) q hq', view_get hj']; rfl)] at r1
      refine .inr ⟨(β' k).1, (β' k).2, rest, by simp, ?_, ?_, r1, ?_⟩
      · rw [hv]
        show Ending.returned (.slice (some ⟨(β' k).1, 0, none⟩) m (Option.getD none (β' k).2)) = _
        rw [hm]
        simp [slV]
      · rcases hh.mine k _ hk rfl rfl with h1 | h1
        · exact h1.elim
        · exact h1
      · rw [List.length_map, ← hlc]; exact r2
    · cases ho
end
end Go.Proofs.YtfcpmapfhgibpaaDoor
namespace Go.Proofs.YtfcpmapfhgibpaaDoor
set_option maxRecDepth 100000
open Go Go.RowKit SX Frm Frn
set_option linter.unusedVariables false
set_option linter.unusedSimpArgs false

/-! ### Calls whose contracts come to ways -/
abbrev SpcT := FuncId → List SV → Hp → Fs → Option (T Out)
def SpecOkT (P : Program) (ρ : Env) (w0 : World) (M : Nat → Prop) (gl : Gl) (sp : SpcT) : Prop := ∀ (f : FuncId) (args : List SV) (hp : Hp) (fs : Fs) (t : T Out), sp f args hp fs = some t →
  ∀ (β : Bm) (w : World) (K : Value → World → Prop), Heap ρ w0 M β hp w → SX.FsOk ρ fs → SV.oks ρ hp.n args → GlOk gl β hp.n → Goes ρ w0 M β hp t K → Calls P f (SV.evs ρ β args).toArray w fun e w' => ∃ v, e = .returned v ∧ K v w'
def ofSpc (sp : Spc) : SpcT := fun f args hp fs => (sp f args hp fs).map T.ok
def orT (a b : SpcT) : SpcT := fun f args hp fs => match a f args hp fs with
  | some o => some o
  | none => b f args hp fs
def callH (P : Program) (gl : Gl) (okF : FuncId → Bool) (sp : SpcT) (keep : FuncId → Nat → List Nat) (fuel : Nat) : Nat → Caller
  | 0, _, _, _, _ => .bad 150
  | n + 1, f, args, hp, fs =>
    if okF f then
      match sp f args hp fs with
      | some t => t
      | none => match P.funcs[f]? with
        | some fn => match fn.body with
          | some c => (exec P gl (callH P gl okF sp keep fuel n) (keep f) fuel c { sz := args.length + (fn.ntmps - args.length), tmps := fun i => args.getD i undefS, hp := hp, facts := fs }).bind fun r => match r.x with
            | .exit _ => .bad 151
            | _ => match resultsS P r.st fn.results.toList with
              | some vs => .ok ⟨packS vs, r.st.hp, r.st.facts⟩
              | none => .bad 152
          | none => .bad 153
        | none => .bad 154
    else .bad 155
section
variable {P : Program} {ρ : Env} {w0 : World} {M : Nat → Prop} {gl : Gl}
theorem ofSpc_ok {sp : Spc} (h : SpecOk P ρ w0 M gl sp) : SpecOkT P ρ w0 M gl (ofSpc sp) := fun f args hp fs t ht β w K hh hf ha hg hk => by
  unfold ofSpc at ht
  cases ho : sp f args hp fs with
  | none => rw [ho] at ht; cases ht
  | some o =>
    rw [ho] at ht
    obtain rfl := Option.some.inj ht
    exact (h f args hp fs o ho β w hh hf ha hg).mono fun e w' ⟨β', h1, h2, h3, h4, h5, h6, h7⟩ => ⟨_, h7, hk β' w' h1 h2 h3 h4 h5 h6⟩
theorem orT_ok {a b : SpcT} (h1 : SpecOkT P ρ w0 M gl a) (h2 : SpecOkT P ρ w0 M gl b) : SpecOkT P ρ w0 M gl (orT a b) := fun f args hp fs t ht => by
  unfold orT at ht
  split at ht
  · rename_i o' ho
    obtain rfl := Option.some.inj ht
    exact h1 f args hp fs o' ho
  · exact h2 f args hp fs t ht
theorem callH_run {okF : FuncId → Bool} {sp : SpcT} {keep : FuncId → Nat → List Nat} {fuel : Nat} (hm : P.follows .mixedOrders = true) (hok : ∀ f, okF f = true → ∀ xs w, (callFunc f xs).run P w = .ok (.enter f xs) w) (hsp : SpecOkT P ρ w0 M gl sp) :
    ∀ n : Nat, CallOk P ρ w0 M gl (callH P gl okF sp keep fuel n)
  | 0 => fun f args hp fs β w K hh hf ha hg h => h.elim
  | n + 1 => fun f args hp fs β w K hh hf ha hg h => by
    unfold callH at h
    split at h
    · rename_i hof
      refine ⟨hok f hof, ?_⟩
      split at h
      · rename_i t ht
        exact hsp f args hp fs t ht β w K hh hf ha hg h
      · split at h
        · rename_i fn hfn
          split at h
          · rename_i c hb
            unfold Goes at h
            rw [T.holds_bind] at h
            refine calls_of_wp hfn hb ?_
            refine exec_run (callH_run hm hok hsp n) hm c β _ _ w _ (entry_conc (fn := fn) hh hf ha hg) (T.holds_mono (fun r hr => ?_) h)
            obtain ⟨x, st'⟩ := r
            intro β' a' w' hx hl hs hc'
            cases x with
            | exit id => exact hr.elim
            | normal =>
              simp only at hr
              split at hr
              · rename_i vs hvs
                obtain ⟨r1, r2⟩ := results_run hc' hvs
                exact ⟨hc'.defers, _, r1, _, rfl, hr β' w' hx hl hs hc'.heap hc'.facts r2⟩
              · exact hr.elim
            | ret =>
              simp only at hr
              split at hr
              · rename_i vs hvs
                obtain ⟨r1, r2⟩ := results_run hc' hvs
                exact ⟨hc'.defers, _, r1, _, rfl, hr β' w' hx hl hs hc'.heap hc'.facts r2⟩
              · exact hr.elim
          · exact h.elim
        · exact h.elim
    · exact h.elim
end

/-! ### Objects that turn, and new ones -/
section
variable {ρ : Env} {w0 w w' : World} {M : Nat → Prop} {β : Bm} {hp : Hp} {φ : Nat → Nat → Prop} {k q : Nat} {es es' : List E}
theorem Heap.turn_ (h : Heap ρ w0 M β hp w) (ho : ObjsOk ρ w0 M β hp φ w) (hk : hp.at k = some ⟨true, .obj q es⟩) {φ' : Nat → Prop} (h1 : Ob q (E.evs ρ es') (β k).1 φ' w') (h2 : ∀ i, φ' i → φ k i ∨ w.heap.size ≤ i) (h3 : Kept w (φ k) w') :
    Heap ρ w0 M β (hp.put k ⟨true, .obj q es'⟩) w' := by
  have hlt := Hp.at_lt hk
  have cases_ : ∀ (j : Nat) (x : Box), (hp.put k ⟨true, .obj q es'⟩).at j = some x → (j ≠ k ∧ hp.at j = some x) ∨ (j = k ∧ x = ⟨true, .obj q es'⟩) := fun j x hj => by
    by_cases he : j = k
    · subst he; rw [Hp.at_put_same _ hlt] at hj; exact .inr ⟨rfl, (Option.some.inj hj).symm⟩
    · rw [Hp.at_put_ne _ he] at hj; exact .inl ⟨he, hj⟩
  refine ⟨fun j x hj => ?_, fun i j x y hi hj hx hy e => ?_, fun j x hj hr hx => ?_, fun j x hj => ?_, ⟨h3.os.trans h.kept.os, h3.tape.trans h.kept.tape, h3.output.trans h.kept.output, Nat.le_trans h.kept.size h3.size, fun i hi hm => ?_⟩, fun j x hj ha => ?_, fun j => if j = k then φ' else φ j, ?_, ?_, ?_⟩
  · rcases cases_ j x hj with ⟨hne, hj'⟩ | ⟨rfl, rfl⟩
    · have hl := h.lies j x hj'
      cases hv : x.c.live with
      | true => exact Bx.lies_block (h3.block _ (Bx.lies_lt hl hv) fun hi => (ho.apart k j _ x hk hj' rfl (Ne.symm hne) _ hi).1 hv rfl) hl
      | false =>
        cases ha : x.c.isArr with
        | false => exact Bx.not_live hv ha hl
        | true =>
          obtain ⟨a1, a2⟩ := h.arrs j x hj' ha
          refine Bx.lies_block (h3.block _ (Nat.lt_of_lt_of_le a1 h.kept.size) fun hi => ?_) hl
          rcases ho.own k _ hk rfl _ hi with h4 | h4
          · exact a2 h4
          · omega
    · trivial
  · rcases cases_ i x hi with ⟨hne, hi'⟩ | ⟨rfl, rfl⟩ <;> rcases cases_ j y hj with ⟨hne', hj'⟩ | ⟨rfl, rfl⟩
    · exact h.inj i j x y hi' hj' hx hy e
    · cases hy
    · cases hx
    · rfl
  · rcases cases_ j x hj with ⟨hne, hj'⟩ | ⟨rfl, rfl⟩
    · exact h.mine j x hj' hr hx
    · cases hx
  · simp only [Hp.n_put]
    rcases cases_ j x hj with ⟨hne, hj'⟩ | ⟨rfl, rfl⟩
    · exact h.good j x hj'
    · trivial
  · rw [h3.block i (Nat.lt_of_lt_of_le hi h.kept.size) fun hi' => ?_]
    · exact h.kept.block i hi hm
    · rcases ho.own k _ hk rfl _ hi' with h4 | h4
      · exact hm h4
      · omega
  · rcases cases_ j x hj with ⟨hne, hj'⟩ | ⟨rfl, rfl⟩
    · exact h.arrs j x hj' ha
    · cases ha
  · intro j x q' es2 hj e
    rcases cases_ j x hj with ⟨hne, hj'⟩ | ⟨rfl, rfl⟩
    · simp only [if_neg hne]
      refine Ob_keep (ho.has j x q' es2 hj' e) fun i hi => h3.block i (ho.lt hj' (by rw [e]; rfl) hi) fun hi' => ?_
      exact (ho.apart j k x _ hj' hk (by rw [e]; rfl) hne i hi).2 rfl hi'
    · cases e
      simp only [if_true]
      exact h1
  · intro j x hj hb i hi
    rcases cases_ j x hj with ⟨hne, hj'⟩ | ⟨rfl, rfl⟩
    · simp only [if_neg hne] at hi
      exact ho.own j x hj' hb i hi
    · simp only [if_true] at hi
      rcases h2 i hi with h4 | h4
      · exact ho.own _ _ hk rfl i h4
      · have := h.kept.size; exact .inr (by omega)
  · intro i j x y hi hj hb hij a ha
    rcases cases_ i x hi with ⟨hne, hi'⟩ | ⟨rfl, rfl⟩
    · simp only [if_neg hne] at ha
      rcases cases_ j y hj with ⟨hne', hj'⟩ | ⟨rfl, rfl⟩
      · simp only [if_neg hne']
        exact ho.apart i j x y hi' hj' hb hij a ha
      · refine ⟨fun hv => (by cases hv), fun _ => ?_⟩
        simp only [if_true]
        intro hc
        rcases h2 a hc with h4 | h4
        · exact (ho.apart i _ x _ hi' hk hb hij a ha).2 rfl h4
        · have := ho.lt hi' hb ha; omega
    · simp only [if_true] at ha
      rcases cases_ j y hj with ⟨hne', hj'⟩ | ⟨rfl, rfl⟩
      · simp only [if_neg hne']
        rcases h2 a ha with h4 | h4
        · exact ho.apart _ j _ y hk hj' rfl hij a h4
        · refine ⟨fun hv e => ?_, fun hv hc => ?_⟩
          · have := Bx.lies_lt (h.lies j y hj') hv; omega
          · have := ho.lt hj' hv hc; omega
      · exact absurd rfl hij
theorem Heap.newObj (h : Heap ρ w0 M β hp w) (hb : Below w.heap.size w w') {b : Nat} {φ' : Nat → Prop} (h1 : Ob q (E.evs ρ es) b φ' w') (h2 : ∀ i, φ' i → w.heap.size ≤ i) :
    Heap ρ w0 M (upd β hp.n (b, 0)) (hp.push ⟨true, .obj q es⟩) w' := by
  obtain ⟨φ, ho⟩ := h.objs
  have hh := h.below hb
  have hx := upd_ext β hp.n (b, 0)
  have cases_ : ∀ (k : Nat) (x : Box), (hp.push ⟨true, .obj q es⟩).at k = some x → (k < hp.n ∧ hp.at k = some x ∧ upd β hp.n (b, 0) k = β k) ∨ (k = hp.n ∧ x = ⟨true, .obj q es⟩) := fun k x hk => by
    have hlt' := Hp.at_lt hk
    simp only [Hp.n_push] at hlt'
    by_cases hlt : k < hp.n
    · rw [Hp.at_push_lt _ hlt] at hk
      exact .inl ⟨hlt, hk, hx k hlt⟩
    · obtain rfl : k = hp.n := by omega
      rw [Hp.at_push_n] at hk
      exact .inr ⟨rfl, (Option.some.inj hk).symm⟩
  have keepB : ∀ (j : Nat) (x : Box) (i : Nat), hp.at j = some x → x.c.isObj = true → φ j i → w'.heap[i]? = w.heap[i]? := fun j x i hj hx hi => hb.block i (ho.lt hj hx hi)
  refine ⟨fun k x hk => ?_, fun j k x y hj hk hlx hly he => ?_, fun k x hk hr hlx => ?_, fun k x hk => ?_, hh.kept, fun k x hk hax => ?_, fun j => if j = hp.n then φ' else φ j, ?_, ?_, ?_⟩
  · rcases cases_ k x hk with ⟨hlt, hk', e⟩ | ⟨rfl, rfl⟩
    · rw [e]; exact Bx.lies_ext hx (hh.good k x hk') (hh.lies k x hk')
    · trivial
  · rcases cases_ j x hj with ⟨hlt, hj', e⟩ | ⟨rfl, rfl⟩ <;> rcases cases_ k y hk with ⟨hlt', hk', e'⟩ | ⟨rfl, rfl⟩
    · rw [e, e'] at he; exact h.inj j k x y hj' hk' hlx hly he
    · cases hly
    · cases hlx
    · rfl
  · rcases cases_ k x hk with ⟨hlt, hk', e⟩ | ⟨rfl, rfl⟩
    · rw [e]; exact h.mine k x hk' hr hlx
    · cases hlx
  · simp only [Hp.n_push]
    rcases cases_ k x hk with ⟨hlt, hk', e⟩ | ⟨rfl, rfl⟩
    · exact Bx.ok_mono (by omega) (h.good k x hk')
    · trivial
  · rcases cases_ k x hk with ⟨hlt, hk', e⟩ | ⟨rfl, rfl⟩
    · rw [e]; exact h.arrs k x hk' hax
    · cases hax
  · intro j x q' es2 hj e
    rcases cases_ j x hj with ⟨hlt, hj', e'⟩ | ⟨rfl, rfl⟩
    · simp only [if_neg (Nat.ne_of_lt hlt)]
      rw [e']
      exact Ob_keep (ho.has j x q' es2 hj' e) fun i hi => keepB j x i hj' (by rw [e]; rfl) hi
    · cases e
      simp only [if_true, upd_same]
      exact h1
  · intro j x hj hb' i hi
    rcases cases_ j x hj with ⟨hlt, hj', e'⟩ | ⟨rfl, rfl⟩
    · simp only [if_neg (Nat.ne_of_lt hlt)] at hi
      exact ho.own j x hj' hb' i hi
    · simp only [if_true] at hi
      have := h2 i hi
      have := h.kept.size
      exact .inr (by omega)
  · intro i j x y hi hj hb' hij a ha
    rcases cases_ i x hi with ⟨hlt, hi', e⟩ | ⟨rfl, rfl⟩ <;> rcases cases_ j y hj with ⟨hlt', hj', e'⟩ | ⟨rfl, rfl⟩
    · simp only [if_neg (Nat.ne_of_lt hlt)] at ha
      simp only [if_neg (Nat.ne_of_lt hlt')]
      rw [e']
      exact ho.apart i j x y hi' hj' hb' hij a ha
    · simp only [if_neg (Nat.ne_of_lt hlt)] at ha
      refine ⟨fun hv => (by cases hv), fun _ => ?_⟩
      simp only [if_true]
      intro hc
      have := h2 a hc
      have := ho.lt hi' hb' ha
      omega
    · simp only [if_true] at ha
      simp only [if_neg (Nat.ne_of_lt hlt')]
      have h4 := h2 a ha
      refine ⟨fun hv e => ?_, fun hv hc => ?_⟩
      · rw [e'] at e
        have := Bx.lies_lt (h.lies j y hj') hv; omega
      · have := ho.lt hj' hv hc; omega
    · exact absurd rfl hij
end
/-! ### Len and New -/
def newF : Fs := [(lt0 (.var 12) (.lit 1), false), (lt0 (.lit 1125899906842624) (.var 12), false), (lt0 (.var 13) (.lit 1), false), (lt0 (.lit 8) (.var 13), false)]
def newEnd (o : Out) : Bool := match o.v with
  | .ptr k 0 => isCells o.hp o.fs k 106 0 [.int .i64 (.var 12), .int .i64 (.var 13), .int .i64 (.lit 0), .raw (.slice none 0 0)]
  | _ => false
set_option maxRecDepth 1000000 in
theorem new_run : (callG Tryd.prog [] okF noSpec noKeep 80 30 27 [.int .i64 (.var 12), .int .i64 (.var 13)] .nil newF).all newEnd = true := by kernel_rfl
end Go.Proofs.YtfcpmapfhgibpaaDoor
