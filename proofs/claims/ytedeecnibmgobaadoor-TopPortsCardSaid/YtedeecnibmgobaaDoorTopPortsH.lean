/- The law TopPorts: its templates, by the number of ports and the slave port. -/
import Derived.Test.YtedeecnibmgobaaDoorTpS
namespace Go.Proofs.YtedeecnibmgobaaDoor
open Go Go.RowKit SX
open DsLaw (lt)
set_option linter.unusedVariables false

def topSh : List Ph := [.sh dsSh, .sl portLk, .sh i1]
def isLen (l m : Nat) : Fs := [(eq0 (.var l) (litN m), true)]
/-! ### What is known of the codes -/
def rngF (m : Nat) : Fs := (List.range m).flatMap fun i => [(lt0 (codeE i) (.lit 1), false), (lt0 (.lit 6) (codeE i), false)]
def isSix (i : Nat) (b : Bool) : E × Bool := (eq0 (codeE i) (.lit 6), b)
def noneF (m : Nat) : Fs := (List.range m).map fun i => isSix i false
def slaveF (m s : Nat) : Fs := (List.range m).map (fun i => isSix i (i == s)) ++ [(lt0 (.lit 127) (.var 1), true), (hasE (litN s), true), (eq0 (hasE (litN s)) (.lit 0), false), (lessE ownE (setE (litN s)), false), (eq0 (lessE ownE (setE (litN s))) (.lit 0), true)]
/-- Port s is the slave; none is, if s is not less than m. -/
def caseF (m s : Nat) : Fs := if s < m then slaveF m s else noneF m
def stF : Fs := [(lt0 (.var 11) (.lit 4), false), (lt0 (.lit 9) (.var 11), false)]
def topFacts (m s : Nat) : Fs := stF ++ (caseF m s ++ (rngF m ++ (isLen 12 m ++ lenU 12)))
section
variable {ρ : Env} {A : Nat → Nat → Int → Int} {m s : Nat}
theorem rngF_ok {own : DS} {n : Nat} (hf : ρ.fn = namesD own A n) : FsOk ρ (rngF m) := fun p hp => by
  obtain ⟨i, _, h⟩ := List.mem_flatMap.1 hp
  have := DcLaw.code_rng (own := own) (has := hasA A) (set := setA A) (n := n) i
  simp only [List.mem_cons, List.not_mem_nil, or_false] at h
  rcases h with rfl | rfl
  · rw [lt0_ev, codeE_ev hf, lit_ev]; simp only [Bool.false_eq_true, iff_false]; omega
  · rw [lt0_ev, codeE_ev hf, lit_ev]; simp only [Bool.false_eq_true, iff_false]; omega
theorem caseF_ok (hf : ρ.fn = namesD (ownOf ρ) A m) (hA : ρ.arr = A) (h : (s < m ∧ DcLaw.code (ownOf ρ) (hasA A) (setA A) m s = 6) ∨ (¬ s < m ∧ ∀ i, i < m → DcLaw.code (ownOf ρ) (hasA A) (setA A) m i ≠ 6)) : FsOk ρ (caseF m s) := by
  unfold caseF
  rcases h with ⟨h1, h2⟩ | ⟨h1, h2⟩
  · rw [if_pos h1]
    obtain ⟨q1, q2, q3, q4⟩ := DcLaw.six_least h2 h1 h1
    refine fsOk_app (fun p hp => ?_) ?_
    · obtain ⟨i, hi, rfl⟩ := List.mem_map.1 hp
      show (eq0 (codeE i) (.lit 6)).ev ρ ≠ 0 ↔ (i == s) = true
      rw [eq0_ev, codeE_ev hf, lit_ev, beq_iff_eq]
      refine ⟨fun h => ?_, fun h => h ▸ h2⟩
      by_cases he : i = s
      · exact he
      · exact absurd h ((DcLaw.six_least h2 h1 (List.mem_range.1 hi)).2.2.2 he)
    · have hh : (hasE (litN s)).ev ρ ≠ 0 ↔ hasA A s = true := hasE_ev hA rfl
      have hl : (lessE ownE (setE (litN s))).ev ρ ≠ 0 ↔ lt (ownOf ρ) (setA A s) := lessE_ev hf ownE_ev (setE_ev hA rfl) rfl
      rw [fsOk_cons, fsOk_cons, fsOk_cons, fsOk_cons, fsOk_cons, fsOk_nil, eq0_ev, eq0_ev, lt0_ev, hh, hl, lit_ev, lit_ev, var_ev]
      refine ⟨⟨fun _ => rfl, fun _ => (DcLaw.code_six h2).1⟩, ⟨fun _ => rfl, fun _ => q1⟩, ⟨fun h => absurd h (hh.2 q1), fun h => Bool.noConfusion h⟩, ⟨fun h => absurd h q3, fun h => Bool.noConfusion h⟩, ⟨fun _ => rfl, fun _ => ?_⟩, trivial⟩
      exact Decidable.not_not.1 fun h => q3 (hl.1 h)
  · rw [if_neg h1]
    intro p hp
    obtain ⟨i, hi, rfl⟩ := List.mem_map.1 hp
    show (eq0 (codeE i) (.lit 6)).ev ρ ≠ 0 ↔ false = true
    rw [eq0_ev, codeE_ev hf, lit_ev]
    exact ⟨fun h => absurd h (h2 i (List.mem_range.1 hi)), fun h => Bool.noConfusion h⟩
end

/-! ### Templates -/
def topBx : List Box := [⟨false, .ro (cellsF.map ofLeaf)⟩, ⟨false, .ro (cellsP.map ofLeaf)⟩, ⟨false, .arr 0 portLk (.var 12)⟩, ⟨true, .cells (dsVs dsLk ownE) 24 0⟩]
def topRules (m s i : Nat) : List Rule := if s < m ∧ i < m then [⟨[(hasE (litN i), true), (lessE (setE (litN i)) (setE (litN s)), true)], [(.lit 0, true)]⟩, ⟨[(eq0 (hasE (litN i)) (.lit 0), false), (lessE (setE (litN i)) (setE (litN s)), true)], [(.lit 0, true)]⟩] else []
def topT (m s i : Nat) : TmR := ⟨⟨113, [(46, .int .i64 (litN i)), (1, portsAt 12), (2, .int .i64 (.var 11)), (3, .ptr 3 0), (7, .slice 4 0 m (some m)), (9, .ptr 5 0), (10, .int .i64 (if s < i then .lit 1 else .lit 0)), (44, .slice 4 0 m (some m)), (45, .int .i64 (litN m))],
  topBx ++ [⟨true, .cells (codesS m) 3 0⟩, ⟨true, .cells (dsVs dsLk (if s < m then setE (litN s) else ownE)) 24 0⟩], []⟩, litN (m - i), topRules m s i⟩
def topC (m s : Nat) : CutR := ⟨[1, 1, 1, 1, 1, 1, 1, 0, 1, 0], 1, (List.range (m + 1)).map (topT m s)⟩
noncomputable def topCode : Code := (Tryd.f3.body).getD .skip
noncomputable def callV : Caller := callG Tryd.prog (tabGl tabs2 0) okF (orSpec spPort (orSpec spNext (spD 12))) noKeep 80 30
noncomputable def topEnter (m s : Nat) : Bool := (execP Tryd.prog (tabGl tabs2 0) callV (noKeep 3) 80 topCode (entrySt Tryd.f3 (phArgs tabs2.length (phSize topSh) none topSh 0) (arrHp tabs2 (phKs topSh) (phSize topSh)) (([] ++ topFacts m s) ++ (lenU (phSize topSh) ++ phFacts topSh 0)))).all (leafOkR (tabGl tabs2 0) [topC m s] (lawEnd Tryd.prog Tryd.f3) (phSize topSh + 2) [] 2)
noncomputable def topRound (m s i : Nat) (g : Nat → Value) : Bool := roundOkR Tryd.prog (tabGl tabs2 0) callV (noKeep 3) 80 [topC m s] (lawEnd Tryd.prog Tryd.f3) (phSize topSh + 2) topCode ([] ++ topFacts m s) (topC m s) (topT m s i) g
noncomputable def topRounds (m s : Nat) (g : Nat → Value) : Bool := upTo m fun i => topRound m s i g
section
variable {A : Nat → Nat → Int → Int} {b off cap m : Nat} {ns : List Int} {w : World}
theorem topRules_ok {ρ : Env} {s i : Nat} (hf : ρ.fn = namesD (ownOf ρ) A m) (hA : ρ.arr = A) (h6 : s < m → DcLaw.code (ownOf ρ) (hasA A) (setA A) m s = 6) : ∀ r ∈ topRules m s i, RuleOk ρ r := by
  intro r hr
  unfold topRules at hr
  split at hr
  · rename_i hsi
    have key : hasA A i = true → (lessE (setE (litN i)) (setE (litN s))).ev ρ ≠ 0 → False := fun h3 h4 => by
      rw [lessE_ev hf (setE_ev hA (k := i) rfl) (setE_ev hA (k := s) rfl) rfl] at h4
      exact (DcLaw.six_least (h6 hsi.1) hsi.1 (j := i) hsi.2).2.1 h3 h4
    have hh : (hasE (litN i)).ev ρ ≠ 0 ↔ hasA A i = true := hasE_ev hA rfl
    simp only [List.mem_cons, List.not_mem_nil, or_false] at hr
    rcases hr with rfl | rfl
    · intro hp
      rw [fsOk_cons, fsOk_cons] at hp
      exact (key (hh.1 (hp.1.2 rfl)) (hp.2.1.2 rfl)).elim
    · intro hp
      rw [fsOk_cons, fsOk_cons, eq0_ev] at hp
      refine (key (hh.1 fun h0 => ?_) (hp.2.1.2 rfl)).elim
      exact Bool.noConfusion (hp.1.1 h0)
  · cases hr
theorem top_env (hlen : ns.length = 12) {ρ' : Env} (hρ : SameK (phSize topSh + 2) (envA (namesD (dsOf ns) A m) (ns ++ [(m : Int), (cap : Int)]) A) ρ') :
    ρ'.fn = namesD (ownOf ρ') A m ∧ ρ'.arr = A ∧ ρ'.v 12 = m ∧ ownOf ρ' = dsOf ns ∧ ρ'.v 11 = ns.getD 11 0 := by
  have h : ∀ i, i < 14 → ρ'.v i = (ns ++ [(m : Int), (cap : Int)]).getD i 0 := hρ.2.2
  have ho : ownOf ρ' = dsOf ns := by
    unfold ownOf
    simp only [h _ (show 0 < 14 by decide), h _ (show 1 < 14 by decide), h _ (show 2 < 14 by decide), h _ (show 3 < 14 by decide), h _ (show 4 < 14 by decide), h _ (show 5 < 14 by decide), h _ (show 6 < 14 by decide), h _ (show 7 < 14 by decide), h _ (show 8 < 14 by decide), h _ (show 9 < 14 by decide), h _ (show 10 < 14 by decide)]
    match ns, hlen with
    | [_, _, _, _, _, _, _, _, _, _, _, _], _ => rfl
  refine ⟨by rw [ho]; exact hρ.1, hρ.2.1, ?_, ho, ?_⟩
  · rw [h 12 (by decide), ← hlen]
    simp
  · rw [h 11 (by decide)]
    match ns, hlen with
    | [_, _, _, _, _, _, _, _, _, _, _, _], _ => rfl
set_option maxRecDepth 1000000 in
theorem top_body : Tryd.f3.body = some topCode := by kernel_rfl
theorem top_case (ht : TabsIn tabs2 w) (hA : ArrIn w (phKs topSh) b off m cap A) (hns : phFits topSh ns) (hl : ns.length = phSize topSh) (hst : 4 ≤ ns.getD 11 0 ∧ ns.getD 11 0 ≤ 9)
    (he : ∀ s, s ≤ m → topEnter m s = true) (hr : ∀ s, s ≤ m → ∀ g, topRounds m s g = true) :
    Calls Tryd.prog 3 (phVals topSh ns [.slice (some ⟨b, off, none⟩) m cap]).toArray w fun e w' => e = .returned (.bool true) ∧ Below w.heap.size w w' := by
  obtain ⟨s, hs, h⟩ : ∃ s, s ≤ m ∧ ((s < m ∧ DcLaw.code (dsOf ns) (hasA A) (setA A) m s = 6) ∨ (¬ s < m ∧ ∀ i, i < m → DcLaw.code (dsOf ns) (hasA A) (setA A) m i ≠ 6)) := by
    by_cases h : ∃ s, s < m ∧ DcLaw.code (dsOf ns) (hasA A) (setA A) m s = 6
    · obtain ⟨s, h1, h2⟩ := h
      exact ⟨s, by omega, .inl ⟨h1, h2⟩⟩
    · exact ⟨m, Nat.le_refl _, .inr ⟨Nat.lt_irrefl _, fun i hi h6 => h ⟨i, hi, h6⟩⟩⟩
  obtain ⟨e1, e2, e3, e4, e5⟩ := top_env (m := m) (cap := cap) hl (SameK.refl (envA (namesD (dsOf ns) A m) (ns ++ [(m : Int), (cap : Int)]) A))
  have hcap := hA.le
  have hmax := hA.max
  have hpos := hA.pos
  refine pays_arr_cutX (rk := 2) (rs0 := []) (cuts := [topC m s]) (p := []) (ax := topFacts m s) (call := callV) (keep := noKeep 3) (fuel := 80) (C := topCode) (fn := Tryd.f3) tabs2 tabs2_nd ht mixed (namesD (dsOf ns) A m) Tryd.func3 top_body rfl hA hns hl (fun _ h => by cases h) ?_ ?_ ?_ ?_ ?_ (fun r hr => by cases hr) (he s hs)
  · refine fsOk_app ?_ (fsOk_app (caseF_ok e1 e2 (by rw [e4]; exact h)) (fsOk_app (rngF_ok (own := dsOf ns) (n := m) rfl) (fsOk_app ?_ ?_)))
    · rw [stF, fsOk_cons, fsOk_cons, fsOk_nil, lt0_ev, lt0_ev, lit_ev, lit_ev, var_ev, e5]
      simp only [Bool.false_eq_true, iff_false, and_true]
      omega
    · rw [isLen, fsOk_cons, fsOk_nil, eq0_ev, litN_ev, var_ev, e3]
      exact ⟨⟨fun _ => rfl, fun _ => rfl⟩, trivial⟩
    · obtain ⟨_, _, s3, _, _⟩ := arr_start (m := 12) tabs2 tabs2_nd ht hA (namesD (dsOf ns) A m) (ns ++ [(m : Int), (cap : Int)]) (by rw [show (12 : Nat) = ns.length from hl.symm]; simp) (by rw [show (12 + 1 : Nat) = ns.length + 1 by rw [hl]; rfl]; simp)
      exact s3
  · have h1 : ∀ (f : Nat → E × Bool) (l : List Nat), (∀ i, (f i).1.upto (phSize topSh + 2) = true) → ((l.map f).all fun q => q.1.upto (phSize topSh + 2)) = true := fun f l hf => List.all_eq_true.2 fun q hq => by
      obtain ⟨i, _, rfl⟩ := List.mem_map.1 hq
      exact hf i
    have h2 : ((rngF m).all fun q => q.1.upto (phSize topSh + 2)) = true := List.all_eq_true.2 fun q hq => by
      obtain ⟨i, _, hq⟩ := List.mem_flatMap.1 hq
      simp only [List.mem_cons, List.not_mem_nil, or_false] at hq
      rcases hq with rfl | rfl <;> rfl
    have h3 : ((caseF m s).all fun q => q.1.upto (phSize topSh + 2)) = true := by
      unfold caseF
      split
      · unfold slaveF
        rw [List.all_append, h1 _ _ (fun i => rfl)]
        rfl
      · exact h1 _ _ (fun i => rfl)
    unfold topFacts
    rw [List.all_append, List.all_append, List.all_append, h2, h3]
    rfl
  · intro ρ' hρ
    obtain ⟨q1, q2, q3, q4, q5⟩ := top_env hl hρ
    refine callG_run mixed okF_ok (orSpec_ok (spPort_ok q1 (by rw [q5]; exact hst)) (orSpec_ok (spNext_ok q1 ht) (spD_ok (by rw [q1, q2, q3, Int.toNat_natCast]) (tabs_one ht)))) 30
  · intro ρ' hρ c hc t htm r hr'
    obtain ⟨q1, q2, q3, q4, q5⟩ := top_env hl hρ
    obtain rfl : c = topC m s := by simpa using hc
    obtain ⟨i, _, rfl⟩ := List.mem_map.1 (show t ∈ (List.range (m + 1)).map (topT m s) from htm)
    refine topRules_ok q1 q2 (fun hlt => ?_) r hr'
    rw [q4]
    exact (h.resolve_right fun h => h.1 hlt).2
  · intro c hc t htm
    obtain rfl : c = topC m s := by simpa using hc
    obtain ⟨i, hi, rfl⟩ := List.mem_map.1 (show t ∈ (List.range (m + 1)).map (topT m s) from htm)
    have hR : ∀ g, topRounds m s g = true := hr s hs
    exact ⟨.leaf, fun g => CT.mk0 (upTo_spec (hR g) (by have := List.mem_range.1 hi; omega))⟩

/-! ### The other cases -/
noncomputable def lawT (p : Fs) : T Out := callG Tryd.prog (tabGl tabs2 0) okF (orSpec spNext (spD 12)) noKeep 80 30 3 (phArgs tabs2.length (phSize topSh) none topSh 0) (arrHp tabs2 (phKs topSh) (phSize topSh)) (p ++ (lenU (phSize topSh) ++ phFacts topSh 0))
noncomputable def lawE : T Out := callF Tryd.prog (tabGl tabs2 0) okF sumsL noKeep 80 30 3 (phArgs tabs2.length (phSize topSh) (some (inpNo tabs2.length (phKs topSh).length (phSize topSh))) topSh 0) (noHp tabs2) (phFacts topSh 0)
noncomputable def lawN : T Out := callF Tryd.prog (tabGl tabs2 0) okF sumsL noKeep 80 30 3 (phArgs tabs2.length (phSize topSh) (some rawNil) topSh 0) (noHp tabs2) (phFacts topSh 0)
theorem top_tree_pays (ht : TabsIn tabs2 w) (hA : ArrIn w (phKs topSh) b off m cap A) (hns : phFits topSh ns) (hl : ns.length = phSize topSh) {p : Fs} (hp : FsOk (envA (namesD (dsOf ns) A m) (ns ++ [(m : Int), (cap : Int)]) A) p)
    (h : (lawT p).all isTrueF = true) : Calls Tryd.prog 3 (phVals topSh ns [.slice (some ⟨b, off, none⟩) m cap]).toArray w fun e w' => e = .returned (.bool true) ∧ Below w.heap.size w w' := by
  obtain ⟨q1, q2, q3, q4, q5⟩ := top_env (m := m) (cap := cap) hl (SameK.refl (envA (namesD (dsOf ns) A m) (ns ++ [(m : Int), (cap : Int)]) A))
  exact pays_arr (keep := noKeep) (fuel := 80) (n := 30) tabs2 tabs2_nd ht mixed okF_ok (namesD (dsOf ns) A m) rfl hA hns hl hp (orSpec_ok (spNext_ok q1 ht) (spD_ok (by rw [q1, q2, q3, Int.toNat_natCast]) (tabs_one ht))) h
end
theorem one_to_8 {p : Nat → Prop} (h1 : p 1) (h2 : p 2) (h3 : p 3) (h4 : p 4) (h5 : p 5) (h6 : p 6) (h7 : p 7) (h8 : p 8) : ∀ m, 1 ≤ m → m ≤ 8 → p m := fun m a b => by
  match m, a, b with
  | 1, _, _ => exact h1
  | 2, _, _ => exact h2
  | 3, _, _ => exact h3
  | 4, _, _ => exact h4
  | 5, _, _ => exact h5
  | 6, _, _ => exact h6
  | 7, _, _ => exact h7
  | 8, _, _ => exact h8
end Go.Proofs.YtedeecnibmgobaaDoor
