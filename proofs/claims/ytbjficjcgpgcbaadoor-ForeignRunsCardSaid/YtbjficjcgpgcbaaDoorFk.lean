/- Records of package foreign: methods that read (Qualified), and Forget: their runs. -/
import Derived.Test.YtbjficjcgpgcbaaDoorFg
namespace Go.Proofs.YtbjficjcgpgcbaaDoor
open Go Go.RowKit SX Frm Frn
set_option linter.unusedVariables false
set_option linter.unusedSimpArgs false

/-! ### Decided by what is known -/
def isIn (test : Nat → E) (want : Bool) (fs : Fs) (i : Nat) : Bool := decideE fs (test i) == some want
def allDec (test : Nat → E) (n : Nat) (fs : Fs) : Bool := (List.range n).all fun i => match decideE fs (test i) with
  | some _ => true
  | none => false
theorem isIn_spec {ρ : Env} {test : Nat → E} {want : Bool} {n : Nat} {fs : Fs} (hf : SX.FsOk ρ fs) (h : allDec test n fs = true) {i : Nat} (hi : i < n) : isIn test want fs i = true ↔ decide ((test i).ev ρ ≠ 0) = want := by
  have := List.all_eq_true.1 h i (List.mem_range.2 hi)
  unfold isIn
  cases hd : decideE fs (test i) with
  | none => rw [hd] at this; cases this
  | some b =>
    have hb := decideE_spec hf hd
    rw [hb]
    simp
theorem filter_range {α : Type} (dflt : α) (p : α → Bool) : ∀ (l : List α) (n : Nat) (q : Nat → Bool), l.length = n → (∀ i, i < n → q i = p (l.getD i dflt)) → ((List.range n).filter q).map (fun i => l.getD i dflt) = l.filter p := by
  intro l
  induction l with
  | nil => intro n q hn h; subst hn; rfl
  | cons x l ih =>
    intro n q hn h
    obtain ⟨m, rfl⟩ : ∃ m, n = m + 1 := ⟨l.length, by simpa using hn.symm⟩
    rw [List.range_succ_eq_map, List.filter_cons]
    have h0 := h 0 (by omega)
    have hs := ih m (fun i => q (i + 1)) (by simpa using hn) (fun i hi => by have := h (i + 1) (by omega); simpa using this)
    have e : ((List.range m).map Nat.succ).filter q = ((List.range m).filter fun i => q (i + 1)).map Nat.succ := by
      rw [List.filter_map]; rfl
    rw [e]
    simp only [List.getD_cons_zero] at h0
    have e2 : (((List.range m).filter fun i => q (i + 1)).map Nat.succ).map (fun i => (x :: l).getD i dflt) = ((List.range m).filter fun i => q (i + 1)).map fun i => l.getD i dflt := by
      rw [List.map_map]; rfl
    rw [List.filter_cons, ← h0]
    split
    · rw [List.map_cons, e2, hs]; rfl
    · rw [e2, hs]

/-! ### Forget -/
def argsT : List SV := [.ptr 0 0, .int .i64 (.var 11)]
def keepE (i : Nat) : E := lt0 (.lit 0) (recE i (.var 11))
def keptI (n : Nat) (o : Out) : List Nat := (List.range n).filter fun i => isIn keepE true o.fs i
def endC (n : Nat) (f : Option (Nat × Nat)) (e : E) (ws : Out → List Wr) (v : Out → SV) (chk : Out → Bool) (o : Out) : Bool :=
  (chk o && (SV.fit o.fs (fun i => .var i) id o.hp.n (v o) o.v && (v o).flat && Nat.beq (rdKms o.hp).length (ws o).length && picOk n f e (mkPic o.hp (ws o)) o.hp o.fs)) || noWay o.fs
noncomputable def forgB (n : Nat) : Bool := (runG (spRecent n) 20 argsT n none []).all (endC n none (.var 14) (fun o => (keptI n o).map oldW) (fun o => .int .i64 (.lit (Int.ofNat (n - (keptI n o).length)))) (fun o => allDec keepE n o.fs))
section
variable {F : Nat → Nat → List Int → Int} {d : List Int} {t win need now : Int} {l : List RV} {ts : List (Nat × Nat)} {tm : List Int} {b lb lc n : Nat} {ms : List Nat} {w w' : World} {f : Option (Nat × Nat)} {e : E}
/-- A method that may change the records; its ends are told by what is known. -/
theorem chg_C {sp : Spc} {g : Nat} {args : List SV} {p : Fs} {ws : Out → List Wr} {v : Out → SV} {chk : Out → Bool} (hP : PackOk l tm win need now n f) (h : LayA win need now l b lb lc ms ts w) (h0 : l = [] → lb = w.heap.size) (hd : fitsK ks11 d) (ht : (Lit.int .i64 t).wf = true)
    (hsp : SpecOk Tryd.prog (envR F d t win need now l ts tm) w (fun i => ∃ k, k < 2 + n + n ∧ (boxA n f k).rw = true ∧ (bmA n f b lb lc ms ts k).1 = i) [] sp) (hp : SX.FsOk (envR F d t win need now l ts tm) p) (hargs : SV.oks (envR F d t win need now l ts tm) (2 + n + n) args) (hr : (runG sp g args n f p).all (endC n f e ws v chk) = true) :
    Calls Tryd.prog g (SV.evs (envR F d t win need now l ts tm) (bmA n f b lb lc ms ts) args).toArray w fun x w' => ∃ o, SX.FsOk (envR F d t win need now l ts tm) o.fs ∧ chk o = true ∧ x = .returned ((v o).ev (envR F d t win need now l ts tm) β0) ∧
      (∃ lb' lc' ms' ts', LayA win need (e.ev (envR F d t win need now l ts tm)) ((ws o).map (Wr.view (envR F d t win need now l ts tm) l)) b lb' lc' ms' ts' w' ∧ ∀ i ∈ blksA ((ws o).map (Wr.view (envR F d t win need now l ts tm) l)) b lb' ms' ts', i ∈ blksA l b lb ms ts ∨ w.heap.size ≤ i) ∧
      Kept w (fun i => i ∈ blksA l b lb ms ts) w' := by
  refine ((callG_run (gl := []) (keep := noKeep) (fuel := 80) mixed okF_ok hsp 30 g args (hpA n f) (p ++ factsA n f) _ w (fun x w' => ∃ o, SX.FsOk (envR F d t win need now l ts tm) o.fs ∧ chk o = true ∧ x = (v o).ev (envR F d t win need now l ts tm) β0 ∧
      (∃ lb' lc' ms' ts', LayA win need (e.ev (envR F d t win need now l ts tm)) ((ws o).map (Wr.view (envR F d t win need now l ts tm) l)) b lb' lc' ms' ts' w' ∧ ∀ i ∈ blksA ((ws o).map (Wr.view (envR F d t win need now l ts tm) l)) b lb' ms' ts', i ∈ blksA l b lb ms ts ∨ w.heap.size ≤ i) ∧
      Kept w (fun i => i ∈ blksA l b lb ms ts) w') (pack_A hP h h0) (fsOk_app hp (factsA_ok hP h hd ht)) hargs (fun _ h => by cases h)
    (T.holds_mono (fun o ho β' w' hx hl hs hh hf _ => ?_) (T.all_holds hr))).2).mono fun x w' ⟨y, he, o, h1, hc, h2, h3⟩ => ⟨o, h1, hc, by rw [he, h2], h3⟩
  unfold endC at ho
  rw [Bool.or_eq_true] at ho
  rcases ho with ho | ho
  rotate_left
  · exact (noWay_spec hf ho).elim
  simp only [Bool.and_eq_true, beq_iff, decide_eq_true_eq] at ho
  obtain ⟨oc, ⟨⟨o1, o2⟩, o3⟩, o4⟩ := ho
  obtain ⟨e1, _⟩ := SV.fit_spec (β := β') (m := o.hp.n) hf _ _ o1
  obtain ⟨u1, u2⟩ := unpack_A hP h h0 hh hx hs hf o4
  have ev : (mkPic o.hp (ws o)).rs.map (Pr.view (envR F d t win need now l ts tm) l) = (ws o).map (Wr.view (envR F d t win need now l ts tm) l) := zipP_view _ _ _ _ _ o3
  rw [ev] at u1 u2
  refine ⟨o, hf, oc, ?_, ⟨_, _, _, _, u1, u2⟩, ⟨hh.kept.os, hh.kept.tape, hh.kept.output, hh.kept.size, fun i hi hn => hh.kept.block i hi fun hM => hn (maskA h hP.len hM)⟩⟩
  rw [e1, SV.ev_flat β0 (fun k => β' (id k)) (v o) o2]
  rfl
end
/-! ### Methods that only read -/
def still (hp : Hp) : Hp := ⟨hp.n, fun k => ⟨false, (hp.box k).c⟩⟩
theorem Heap.still_ {ρ : Env} {w : World} {M : Nat → Prop} {β : Bm} {hp : Hp} (h : Heap ρ w M β hp w) (ho : ∀ k, k < hp.n → (hp.box k).c.isObj = false) : Heap ρ w (fun _ => False) β (still hp) w := by
  have key : ∀ (k : Nat) (b : Box), (still hp).at k = some b → k < hp.n ∧ b = ⟨false, (hp.box k).c⟩ ∧ hp.at k = some (hp.box k) := fun k b hk => by
    obtain ⟨h1, h2⟩ := Hp.at_some.1 hk
    exact ⟨h1, h2.symm, Hp.at_some.2 ⟨h1, rfl⟩⟩
  refine ⟨fun k b hk => ?_, fun j k b b' hj hk hb hb' e => ?_, fun k b hk hr _ => ?_, fun k b hk => ?_, Kept.refl w _, fun k b hk ha => ?_, ObjsOk.none fun k b hk => ?_⟩
  · obtain ⟨_, rfl, h2⟩ := key k b hk; exact h.lies k (hp.box k) h2
  · obtain ⟨_, rfl, h2⟩ := key j b hj
    obtain ⟨_, rfl, h3⟩ := key k b' hk
    exact h.inj j k (hp.box j) (hp.box k) h2 h3 hb hb' e
  · obtain ⟨_, rfl, h2⟩ := key k b hk; cases hr
  · obtain ⟨_, rfl, h2⟩ := key k b hk; exact h.good k (hp.box k) h2
  · obtain ⟨_, rfl, h2⟩ := key k b hk; exact ⟨(h.arrs k (hp.box k) h2 ha).1, fun e => e⟩
  · obtain ⟨h1, rfl, h2⟩ := key k b hk; exact ho k h1
noncomputable def runS (sp : Spc) (g : Nat) (args : List SV) (n : Nat) (p : Fs) : T Out := callG Tryd.prog [] okF sp noKeep 80 30 g args (still (hpA n none)) (p ++ factsA n none)
def lessF (i : Nat) : E := lt0 (recE i (.var 11)) (.var 13)
def qualI (n : Nat) (o : Out) : List Nat := (List.range n).filter fun i => isIn lessF false o.fs i
def qualEnd (n : Nat) (o : Out) : Bool :=
  allDec lessF n o.fs && (match qualI n o with
    | [] => match o.v with
      | .raw (.slice none 0 0) => true
      | _ => false
    | i :: js => match o.v with
      | .slice k 0 m none => Nat.beq m (i :: js).length && isCells o.hp o.fs k 32 12 ((i :: js).flatMap fun i => dsS (recVar i))
      | _ => false)
noncomputable def qualB (n : Nat) : Bool := (runS (spRecent n) 18 argsT n []).all (qualEnd n)
set_option maxRecDepth 1000000 in
theorem forg_0 : forgB 0 = true := by kernel_rfl
set_option maxRecDepth 1000000 in
theorem forg_1 : forgB 1 = true := by kernel_rfl
set_option maxRecDepth 1000000 in
theorem qual_0 : qualB 0 = true := by kernel_rfl
set_option maxRecDepth 1000000 in
theorem qual_1 : qualB 1 = true := by kernel_rfl
end Go.Proofs.YtbjficjcgpgcbaaDoor
