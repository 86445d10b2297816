/- The law DecideSlave of layer 36: its templates, by the number of ports and the slave port. -/
import Derived.Test.YthbfjnmdjehljaaDoorDcE
namespace Go.Proofs.YthbfjnmdjehljaaDoor
open Go Go.RowKit SX
open DsLaw (lt)
set_option linter.unusedVariables false

/-! ### What is known of the codes -/
def rngF (m : Nat) : Fs := (List.range m).flatMap fun i => [(lt0 (codeE i) (.lit 1), false), (lt0 (.lit 6) (codeE i), false)]
def isSix (i : Nat) (b : Bool) : E × Bool := (eq0 (codeE i) (.lit 6), b)
def noneF (m : Nat) : Fs := (List.range m).map fun i => isSix i false
def slaveF (m s : Nat) : Fs := (List.range m).map (fun i => isSix i (i == s)) ++ [(lt0 (.lit 127) (.var 1), true), (hasE (litN s), true), (eq0 (hasE (litN s)) (.lit 0), false), (lessE ownE (setE (litN s)), false), (eq0 (lessE ownE (setE (litN s))) (.lit 0), true)]
/-- Port s is the slave; none is, if s is not less than m. -/
def caseF (m s : Nat) : Fs := if s < m then slaveF m s else noneF m
section
variable {ρ : Env} {A : Nat → Nat → Int → Int} {m s : Nat}
theorem rngF_ok {own : DS} {n : Nat} (hf : ρ.fn = namesD own A n) : FsOk ρ (rngF m) := fun p hp => by
  obtain ⟨i, _, h⟩ := List.mem_flatMap.1 hp
  have := DcLaw.code_rng (own := own) (has := hasA A) (set := setA A) (n := n) i
  simp only [List.mem_cons, List.not_mem_nil, or_false] at h
  rcases h with rfl | rfl
  · rw [lt0_ev, codeE_ev hf, lit_ev]; simp only [Bool.false_eq_true, iff_false]; omega
  · rw [lt0_ev, codeE_ev hf, lit_ev]; simp only [Bool.false_eq_true, iff_false]; omega
theorem caseF_ok (hf : ρ.fn = namesD (ownOf ρ) A m) (hA : ρ.arr = A) (h : (s < m ∧ DcLaw.code (ownOf ρ) (hasA A) (setA A) m s = 6) ∨ (¬ s < m ∧ ∀ i, i < m → DcLaw.code (ownOf ρ) (hasA A) (setA A) m i ≠ 6)) : FsOk ρ (caseF m s) := by
  unfold caseF
  rcases h with ⟨h1, h2⟩ | ⟨h1, h2⟩
  · rw [if_pos h1]
    obtain ⟨q1, q2, q3, q4⟩ := DcLaw.six_least h2 h1 h1
    refine fsOk_app (fun p hp => ?_) ?_
    · obtain ⟨i, hi, rfl⟩ := List.mem_map.1 hp
      show (eq0 (codeE i) (.lit 6)).ev ρ ≠ 0 ↔ (i == s) = true
      rw [eq0_ev, codeE_ev hf, lit_ev, beq_iff_eq]
      refine ⟨fun h => ?_, fun h => h ▸ h2⟩
      by_cases he : i = s
      · exact he
      · exact absurd h ((DcLaw.six_least h2 h1 (List.mem_range.1 hi)).2.2.2 he)
    · have hh : (hasE (litN s)).ev ρ ≠ 0 ↔ hasA A s = true := hasE_ev hA rfl
      have hl : (lessE ownE (setE (litN s))).ev ρ ≠ 0 ↔ lt (ownOf ρ) (setA A s) := lessE_ev hf ownE_ev (setE_ev hA rfl) rfl
      rw [fsOk_cons, fsOk_cons, fsOk_cons, fsOk_cons, fsOk_cons, fsOk_nil, eq0_ev, eq0_ev, lt0_ev, hh, hl, lit_ev, lit_ev, var_ev]
      refine ⟨⟨fun _ => rfl, fun _ => (DcLaw.code_six h2).1⟩, ⟨fun _ => rfl, fun _ => q1⟩, ⟨fun h => absurd h (hh.2 q1), fun h => Bool.noConfusion h⟩, ⟨fun h => absurd h q3, fun h => Bool.noConfusion h⟩, ⟨fun _ => rfl, fun _ => ?_⟩, trivial⟩
      exact Decidable.not_not.1 fun h => q3 (hl.1 h)
  · rw [if_neg h1]
    intro p hp
    obtain ⟨i, hi, rfl⟩ := List.mem_map.1 hp
    show (eq0 (codeE i) (.lit 6)).ev ρ ≠ 0 ↔ false = true
    rw [eq0_ev, codeE_ev hf, lit_ev]
    exact ⟨fun h => absurd h (h2 i (List.mem_range.1 hi)), fun h => Bool.noConfusion h⟩
end

/-! ### Templates -/
def codBx (m : Nat) : Box := ⟨true, .cells (codesS m) 3 0⟩
def slvFacts (m s : Nat) : Fs := caseF m s ++ (rngF m ++ (isLen 11 m ++ lenU 11))
def slvT1 (m s i : Nat) : TmR := ⟨⟨113, [(34, .int .i64 (litN i)), (1, portsD), (2, .ptr 2 0), (5, .slice 3 0 m (some m)), (7, .int .i64 (if s < i then litN s else .lit (-1))), (32, .slice 3 0 m (some m)), (33, .int .i64 (litN m))],
  decBx ++ [codBx m], slvFacts m s⟩, litN (m - i), []⟩
def slvC1 (m s : Nat) : CutR := ⟨[1, 1, 1, 1, 1, 0, 1, 0], 2, (List.range (m + 1)).map (slvT1 m s)⟩
def pI (m : Nat) : E := .bin .zadd .i64 (litN m) (.bin .zmul .i64 (.lit (-1)) (.var 13))
def slvR2 (m s : Nat) : List Rule := [⟨[(lt0 (.lit 0) (.var 13), true), (lt0 (litN m) (.var 13), false), (hasE (pI m), true), (lessE (setE (pI m)) (setE (litN s)), true)], [(.lit 0, true)]⟩]
def slvT2 (m s : Nat) : TmR := ⟨⟨113, [(79, .int .i64 (pI m)), (1, portsD), (2, .ptr 2 0), (5, .slice 3 0 m (some m)), (7, .int .i64 (litN s)), (10, .ptr 4 0), (77, portsD), (78, .int .i64 (.var 11))],
  decBx ++ [codBx m, ⟨true, .cells (dsVs dsLk (setE (litN s))) 24 0⟩], slvFacts m s ++ [(lt0 (litN m) (.var 13), false), (lt0 (.var 13) (.lit 0), false)]⟩, .var 13, slvR2 m s⟩
def slvC2 (m s : Nat) : CutR := ⟨[1, 1, 1, 1, 1, 1, 1, 1, 0, 1, 0], 1, [slvT2 m s]⟩
def slvCuts (m s : Nat) : List CutR := if s < m then [slvC1 m s, slvC2 m s] else [slvC1 m s]
noncomputable def slvC : Code := (Tryd.f5.body).getD .skip
noncomputable def callW (l : Nat) : Caller := callG Tryd.prog (tabGl tabs36 0) okF (spD l) noKeep 80 30
noncomputable def slvEnter (m s : Nat) : Bool := (execP Tryd.prog (tabGl tabs36 0) (callW 11) (noKeep 5) 80 slvC (entrySt Tryd.f5 (phArgs tabs36.length (phSize decSh) none decSh 0) (arrHp tabs36 (phKs decSh) (phSize decSh)) ((caseF m s ++ (rngF m ++ isLen 11 m)) ++ (lenU (phSize decSh) ++ phFacts decSh 0)))).all (leafOkR (tabGl tabs36 0) (slvCuts m s) (lawEnd Tryd.prog Tryd.f5) (phSize decSh + 2) [] 3)
noncomputable def slvRound (m s : Nat) (c : CutR) (t : TmR) (g : Nat → Value) : Bool := roundOkR Tryd.prog (tabGl tabs36 0) (callW 11) (noKeep 5) 80 (slvCuts m s) (lawEnd Tryd.prog Tryd.f5) (phSize decSh + 2) slvC [] c t g
noncomputable def slvRounds (m s : Nat) (g : Nat → Value) : Bool := upTo m (fun i => slvRound m s (slvC1 m s) (slvT1 m s i) g) && (decide (m ≤ s) || slvRound m s (slvC2 m s) (slvT2 m s) g)
section
variable {A : Nat → Nat → Int → Int} {b off cap m : Nat} {ns : List Int} {w : World}
theorem slvR2_ok {ρ : Env} {s : Nat} (hf : ρ.fn = namesD (ownOf ρ) A m) (hA : ρ.arr = A) (hs : s < m) (h6 : DcLaw.code (ownOf ρ) (hasA A) (setA A) m s = 6) : ∀ r ∈ slvR2 m s, RuleOk ρ r := by
  intro r hr
  simp only [slvR2, List.mem_cons, List.not_mem_nil, or_false] at hr
  subst hr
  have hp : (pI m).ev ρ = m - ρ.v 13 := by show (m : Int) + -1 * ρ.v 13 = _; omega
  simp only [RuleOk, fsOk_cons, fsOk_nil, and_true, lt0_ev, lit_ev, litN_ev, var_ev, iff_true, Bool.false_eq_true, iff_false]
  rintro ⟨h1, h2, h3, h4⟩
  exfalso
  obtain ⟨x, hx⟩ : ∃ x : Nat, (pI m).ev ρ = x := ⟨((pI m).ev ρ).toNat, by omega⟩
  rw [hasE_ev hA hx] at h3
  rw [lessE_ev hf (setE_ev hA hx) (setE_ev hA (k := s) rfl) rfl] at h4
  exact (DcLaw.six_least h6 hs (j := x) (by omega)).2.1 h3 h4
set_option maxRecDepth 1000000 in
theorem slv_body : Tryd.f5.body = some slvC := by kernel_rfl
theorem slv_case (ht : TabsIn tabs36 w) (hA : ArrIn w (phKs decSh) b off m cap A) (hns : phFits decSh ns) (hl : ns.length = phSize decSh)
    (he : ∀ s, s ≤ m → slvEnter m s = true) (hr : ∀ s, s ≤ m → ∀ g, slvRounds m s g = true) :
    Calls Tryd.prog 5 (phVals decSh ns [.slice (some ⟨b, off, none⟩) m cap]).toArray w fun e w' => e = .returned (.bool true) ∧ Below w.heap.size w w' := by
  obtain ⟨s, hs, h⟩ : ∃ s, s ≤ m ∧ ((s < m ∧ DcLaw.code (dsOf ns) (hasA A) (setA A) m s = 6) ∨ (¬ s < m ∧ ∀ i, i < m → DcLaw.code (dsOf ns) (hasA A) (setA A) m i ≠ 6)) := by
    by_cases h : ∃ s, s < m ∧ DcLaw.code (dsOf ns) (hasA A) (setA A) m s = 6
    · obtain ⟨s, h1, h2⟩ := h
      exact ⟨s, by omega, .inl ⟨h1, h2⟩⟩
    · exact ⟨m, Nat.le_refl _, .inr ⟨Nat.lt_irrefl _, fun i hi h6 => h ⟨i, hi, h6⟩⟩⟩
  obtain ⟨e1, e2, e3, e4⟩ := dec_env (cap := cap) hl (SameK.refl (envA (namesD (dsOf ns) A m) (ns ++ [(m : Int), (cap : Int)]) A))
  refine pays_arr_cut (rk := 3) (rs0 := []) (cuts := slvCuts m s) (p := caseF m s ++ (rngF m ++ isLen 11 m)) (call := callW 11) (keep := noKeep 5) (fuel := 80) (C := slvC) (fn := Tryd.f5) tabs36 tabs36_nd ht mixed (namesD (dsOf ns) A m) Tryd.func5 slv_body rfl hA hns hl ?_ ?_ ?_ ?_ (fun r hr => by cases hr) (he s hs)
  · exact fsOk_app (caseF_ok e1 e2 (by rw [e4]; exact h)) (fsOk_app (rngF_ok (own := dsOf ns) (n := m) rfl) (isLen_ok (by rw [hl]; decide) hl))
  · intro ρ' hρ
    obtain ⟨q1, q2, q3, q4⟩ := dec_env hl hρ
    exact callG_run mixed okF_ok (spD_ok (by rw [q1, q2, q3, Int.toNat_natCast]) ht) 30
  · intro ρ' hρ c hc t htm r hr'
    obtain ⟨q1, q2, q3, q4⟩ := dec_env hl hρ
    unfold slvCuts at hc
    have k1 : c = slvC1 m s → False := fun e => by
      subst e
      obtain ⟨i, _, rfl⟩ := List.mem_map.1 (show t ∈ (List.range (m + 1)).map (slvT1 m s) from htm)
      cases hr'
    split at hc
    · rename_i hlt
      simp only [List.mem_cons, List.not_mem_nil, or_false] at hc
      rcases hc with e | rfl
      · exact (k1 e).elim
      · obtain rfl : t = slvT2 m s := by simpa [slvC2] using htm
        exact slvR2_ok q1 q2 hlt (by rw [q4]; exact (h.resolve_right fun h => h.1 hlt).2) r hr'
    · exact (k1 (by simpa using hc)).elim
  · intro c hc t htm
    have hR : ∀ g, slvRounds m s g = true := hr s hs
    unfold slvRounds at hR
    simp only [Bool.and_eq_true, Bool.or_eq_true, decide_eq_true_eq] at hR
    have k1 : c = slvC1 m s → ∃ ct : CT, ∀ g, ct.all fun p => roundOkR Tryd.prog (tabGl tabs36 0) (callW 11) (noKeep 5) 80 (slvCuts m s) (lawEnd Tryd.prog Tryd.f5) (phSize decSh + 2) slvC p c t g = true := fun e => by
      subst e
      obtain ⟨i, hi, rfl⟩ := List.mem_map.1 (show t ∈ (List.range (m + 1)).map (slvT1 m s) from htm)
      exact ⟨.leaf, fun g => CT.mk0 (upTo_spec (hR g).1 (by have := List.mem_range.1 hi; omega))⟩
    unfold slvCuts at hc
    split at hc
    · rename_i hlt
      simp only [List.mem_cons, List.not_mem_nil, or_false] at hc
      rcases hc with e | rfl
      · exact k1 e
      · obtain rfl : t = slvT2 m s := by simpa [slvC2] using htm
        exact ⟨.leaf, fun g => CT.mk0 ((hR g).2.resolve_left (by omega))⟩
    · exact k1 (by simpa using hc)
end
end Go.Proofs.YthbfjnmdjehljaaDoor
