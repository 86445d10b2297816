/- The law DecideFollows of layer 36: its templates, by the number of ports, the case, and the slave port. -/
import Derived.Test.YthbfjnmdjehljaaDoorDcF
namespace Go.Proofs.YthbfjnmdjehljaaDoor
open Go Go.RowKit SX
open DsLaw (lt)
set_option linter.unusedVariables false

/-- The cases: a low class; a port's set is less; none is, but one is not greater; none. -/
def kF (m k : Nat) : Fs :=
  let n := litN m
  if k = 0 then [(lt0 (.lit 127) (.var 1), false)]
  else if k = 1 then [(lt0 (.lit 127) (.var 1), true), (betE n, true), (eq0 (betE n) (.lit 0), false)]
  else if k = 2 then [(lt0 (.lit 127) (.var 1), true), (betE n, false), (eq0 (betE n) (.lit 0), true), (equE n, true), (eq0 (equE n) (.lit 0), false)]
  else [(lt0 (.lit 127) (.var 1), true), (betE n, false), (eq0 (betE n) (.lit 0), true), (equE n, false), (eq0 (equE n) (.lit 0), true)]
def folK (m k s : Nat) : Fs := kF m k ++ caseF m s
def folFs (m k s : Nat) : Fs := folK m k s ++ (rngF m ++ (isLen 11 m ++ lenU 11))
def pI1 (m : Nat) : E := .bin .zadd .i64 (pI m) (.lit 1)
def betRules (m : Nat) : List Rule :=
  let pre : Fs := [(lt0 (.lit 0) (.var 13), true), (lt0 (litN m) (.var 13), false)]
  [⟨pre ++ [(betE (pI m), true)], [(betE (pI1 m), true)]⟩, ⟨pre ++ [(betE (pI m), false), (hasE (pI m), false)], [(betE (pI1 m), false)]⟩,
   ⟨pre ++ [(betE (pI m), false), (hasE (pI m), true)], [(eq0 (betE (pI1 m)) (lessE (setE (pI m)) ownE), true)]⟩]
def folRules0 : List Rule := [⟨[], [(betE (.lit 0), false)]⟩]
def folT1 (m k s : Nat) : TmR := ⟨⟨121, [(33, .int .i64 (pI m)), (1, portsD), (2, .ptr 2 0), (5, .slice 3 0 m (some m)), (7, .bool (betE (pI m))), (31, portsD), (32, .int .i64 (.var 11))],
  decBx ++ [codBx m], folFs m k s ++ [(lt0 (litN m) (.var 13), false), (lt0 (.var 13) (.lit 0), false)]⟩, .var 13, betRules m⟩
def codRules (m i : Nat) : List Rule :=
  let c (n : Int) (b : Bool) : E × Bool := (eq0 (codeE i) (.lit n), b)
  let lo : E × Bool := (lt0 (.lit 127) (.var 1), false)
  let hi : Fs := [(lt0 (.lit 127) (.var 1), true), (betE (litN m), true)]
  let no : Fs := [(.lit 0, true)]
  if i < m then [⟨[lo, c 1 false, c 4 false], no⟩, ⟨[(eq0 (hasE (litN i)) (.lit 0), true), c 1 false, c 2 false, c 3 false], no⟩, ⟨hi ++ [c 1 true], no⟩, ⟨hi ++ [c 2 true], no⟩, ⟨hi ++ [c 4 true], no⟩] else []
def folT2 (m k s i : Nat) : TmR := ⟨⟨121, [(51, .int .i64 (litN i)), (1, portsD), (2, .ptr 2 0), (5, .slice 3 0 m (some m)), (7, .bool (betE (litN m))), (49, .slice 3 0 m (some m)), (50, .int .i64 (litN m))],
  decBx ++ [codBx m], folFs m k s⟩, litN (m - i), codRules m i⟩
def folC1 (m k s : Nat) : CutR := ⟨[1, 1, 1, 1, 1, 0, 1, 0], 2, [folT1 m k s]⟩
def folC2 (m k s : Nat) : CutR := ⟨[1, 1, 1, 1, 1, 1, 0, 1, 0], 1, (List.range (m + 1)).map (folT2 m k s)⟩
def folCuts (m k s : Nat) : List CutR := [folC1 m k s, folC2 m k s]
def spF (l : Nat) : Spc := orSpec (spEqual l) (spD l)
noncomputable def callX (l : Nat) : Caller := callG Tryd.prog (tabGl tabs36 0) okF (spF l) noKeep 80 30
noncomputable def folC : Code := (Tryd.f7.body).getD .skip
noncomputable def folEnter (m k s : Nat) : Bool := (execP Tryd.prog (tabGl tabs36 0) (callX 11) (noKeep 7) 80 folC (entrySt Tryd.f7 (phArgs tabs36.length (phSize decSh) none decSh 0) (arrHp tabs36 (phKs decSh) (phSize decSh)) ((folK m k s ++ (rngF m ++ isLen 11 m)) ++ (lenU (phSize decSh) ++ phFacts decSh 0)))).all (leafOkR (tabGl tabs36 0) (folCuts m k s) (lawEnd Tryd.prog Tryd.f7) (phSize decSh + 2) folRules0 3)
noncomputable def folRound (m k s : Nat) (c : CutR) (t : TmR) (g : Nat → Value) : Bool := roundOkR Tryd.prog (tabGl tabs36 0) (callX 11) (noKeep 7) 80 (folCuts m k s) (lawEnd Tryd.prog Tryd.f7) (phSize decSh + 2) folC [] c t g
noncomputable def folRounds (m k s : Nat) (g : Nat → Value) : Bool := folRound m k s (folC1 m k s) (folT1 m k s) g && upTo m (fun i => folRound m k s (folC2 m k s) (folT2 m k s i) g)
/-- All cases of one number of ports. -/
def folAll (m : Nat) (p : Nat → Nat → Bool) : Bool := p 0 m && (p 3 m && ((List.range m).all (p 1) && (List.range m).all (p 2)))
section
variable {ρ : Env} {A : Nat → Nat → Int → Int} {m : Nat}
theorem betRules_ok (hf : ρ.fn = namesD (ownOf ρ) A m) (hA : ρ.arr = A) : ∀ r ∈ betRules m, RuleOk ρ r := by
  have hp : (pI m).ev ρ = m - ρ.v 13 := by show (m : Int) + -1 * ρ.v 13 = _; omega
  have hp1 : (pI1 m).ev ρ = (pI m).ev ρ + 1 := rfl
  have hs1 : ∀ {x : Nat}, (pI m).ev ρ = x → ((lessE (setE (pI m)) ownE).ev ρ ≠ 0 ↔ lt (setA A x) (ownOf ρ)) := fun hx => lessE_ev hf (setE_ev hA hx) ownE_ev rfl
  intro r hr
  simp only [betRules, List.mem_cons, List.not_mem_nil, or_false, List.cons_append, List.nil_append] at hr
  rcases hr with rfl | rfl | rfl <;> simp only [RuleOk, fsOk_cons, fsOk_nil, and_true, iff_true, Bool.false_eq_true, iff_false] <;> simp only [lt0_ev, lit_ev, litN_ev, var_ev, Int.not_lt]
  · rintro ⟨h0, h1, h2⟩
    obtain ⟨x, hx⟩ : ∃ x : Nat, (pI m).ev ρ = x := ⟨((pI m).ev ρ).toNat, by omega⟩
    rw [betE_iff hf hx] at h2
    rw [betE_iff hf (m := x + 1) (by rw [hp1, hx]; rfl)]
    simp [DcLaw.better, h2]
  · rintro ⟨h0, h1, h2, h3⟩
    obtain ⟨x, hx⟩ : ∃ x : Nat, (pI m).ev ρ = x := ⟨((pI m).ev ρ).toNat, by omega⟩
    rw [betE_iff hf hx, Bool.not_eq_true] at h2
    rw [hasE_ev hA hx, Bool.not_eq_true] at h3
    rw [betE_iff hf (m := x + 1) (by rw [hp1, hx]; rfl)]
    simp [DcLaw.better, h2, h3]
  · rintro ⟨h0, h1, h2, h3⟩
    obtain ⟨x, hx⟩ : ∃ x : Nat, (pI m).ev ρ = x := ⟨((pI m).ev ρ).toNat, by omega⟩
    rw [betE_iff hf hx, Bool.not_eq_true] at h2
    rw [hasE_ev hA hx] at h3
    have hx1 : (pI1 m).ev ρ = (x + 1 : Nat) := by rw [hp1, hx]; rfl
    rw [eq0_ev]
    refine same01 (betE_01 hf hx1) (lessE_01 hf _ _) ?_
    rw [betE_iff hf hx1, hs1 hx]
    simp [DcLaw.better, h2, h3]
theorem folRules0_ok {own : DS} (hf : ρ.fn = namesD own A m) : ∀ r ∈ folRules0, RuleOk ρ r := by
  intro r hr
  simp only [folRules0, List.mem_cons, List.not_mem_nil, or_false] at hr
  subst hr
  simp only [RuleOk, fsOk_cons, fsOk_nil, and_true, Bool.false_eq_true, iff_false]
  intro _
  rw [betE_iff hf (m := 0) rfl]
  simp [DcLaw.better]
theorem codRules_ok (hf : ρ.fn = namesD (ownOf ρ) A m) (hA : ρ.arr = A) (i : Nat) : ∀ r ∈ codRules m i, RuleOk ρ r := by
  have hcd : (codeE i).ev ρ = DcLaw.code (ownOf ρ) (hasA A) (setA A) m i := codeE_ev hf i
  have hhas : (eq0 (hasE (litN i)) (.lit 0)).ev ρ ≠ 0 ↔ hasA A i = false := by
    rw [eq0_ev, lit_ev]
    have := hasE_ev hA (i := litN i) (k := i) rfl
    rw [← Bool.not_eq_true, ← this]
    exact Decidable.not_not.symm
  have hb : (betE (litN m)).ev ρ ≠ 0 ↔ _ := betE_iff hf (k := litN m) (m := m) rfl
  intro r hr
  unfold codRules at hr
  split at hr
  rotate_left
  · cases hr
  rename_i him
  simp only [List.mem_cons, List.not_mem_nil, or_false, List.cons_append, List.nil_append] at hr
  rcases hr with rfl | rfl | rfl | rfl | rfl <;> simp only [RuleOk, fsOk_cons, fsOk_nil, and_true, iff_true, Bool.false_eq_true, iff_false, hhas, hb] <;> simp only [lt0_ev, eq0_ev, lit_ev, var_ev, Int.not_lt, hcd]
  · rintro ⟨h0, h1, h2⟩
    exfalso
    rcases DcLaw.code_low (own := ownOf ρ) (has := hasA A) (set := setA A) (n := m) (i := i) h0 with h | h
    · exact h1 h
    · exact h2 h
  · rintro ⟨h0, h1, h2, h3⟩
    exfalso
    rcases DcLaw.code_no (own := ownOf ρ) (has := hasA A) (set := setA A) (n := m) (i := i) h0 him with h | h | h
    · exact h1 h
    · exact h2 h
    · exact h3 h
  · rintro ⟨h0, h1, h2⟩
    exact absurd h2 (DcLaw.code_better (own := ownOf ρ) h0 h1 i).1
  · rintro ⟨h0, h1, h2⟩
    exact absurd h2 (DcLaw.code_better (own := ownOf ρ) h0 h1 i).2.1
  · rintro ⟨h0, h1, h2⟩
    exact absurd h2 (DcLaw.code_better (own := ownOf ρ) h0 h1 i).2.2
theorem eq00 {e : E} : (eq0 e (.lit 0)).ev ρ ≠ 0 ↔ ¬ e.ev ρ ≠ 0 := by
  rw [eq0_ev, lit_ev]
  exact Decidable.not_not.symm
theorem kF_ok (hf : ρ.fn = namesD (ownOf ρ) A m) : ((ownOf ρ).cls ≤ 127 → FsOk ρ (kF m 0)) ∧ (127 < (ownOf ρ).cls → DcLaw.better (ownOf ρ) (hasA A) (setA A) m = true → FsOk ρ (kF m 1)) ∧
    (127 < (ownOf ρ).cls → DcLaw.better (ownOf ρ) (hasA A) (setA A) m = false → DcLaw.equal (ownOf ρ) (hasA A) (setA A) m = true → FsOk ρ (kF m 2)) ∧
    (127 < (ownOf ρ).cls → DcLaw.better (ownOf ρ) (hasA A) (setA A) m = false → DcLaw.equal (ownOf ρ) (hasA A) (setA A) m = false → FsOk ρ (kF m 3)) := by
  have hb : (betE (litN m)).ev ρ ≠ 0 ↔ _ := betE_iff hf (k := litN m) (m := m) rfl
  have he : (equE (litN m)).ev ρ ≠ 0 ↔ _ := equE_iff hf (k := litN m) (m := m) rfl
  refine ⟨fun h1 => ?_, fun h1 h2 => ?_, fun h1 h2 h3 => ?_, fun h1 h2 h3 => ?_⟩
  · show FsOk ρ [_]
    rw [fsOk_cons, fsOk_nil, lt0_ev, lit_ev, var_ev]
    exact ⟨⟨fun h => absurd h (Int.not_lt.2 h1), fun h => Bool.noConfusion h⟩, trivial⟩
  · show FsOk ρ [_, _, _]
    rw [fsOk_cons, fsOk_cons, fsOk_cons, fsOk_nil, lt0_ev, lit_ev, var_ev, eq00, hb, h2]
    exact ⟨⟨fun _ => rfl, fun _ => h1⟩, by simp, by simp, trivial⟩
  · show FsOk ρ [_, _, _, _, _]
    rw [fsOk_cons, fsOk_cons, fsOk_cons, fsOk_cons, fsOk_cons, fsOk_nil, lt0_ev, lit_ev, var_ev, eq00, eq00, hb, he, h2, h3]
    exact ⟨⟨fun _ => rfl, fun _ => h1⟩, by simp, by simp, by simp, by simp, trivial⟩
  · show FsOk ρ [_, _, _, _, _]
    rw [fsOk_cons, fsOk_cons, fsOk_cons, fsOk_cons, fsOk_cons, fsOk_nil, lt0_ev, lit_ev, var_ev, eq00, eq00, hb, he, h2, h3]
    exact ⟨⟨fun _ => rfl, fun _ => h1⟩, by simp, by simp, by simp, by simp, trivial⟩
end
set_option maxRecDepth 1000000 in
theorem fol_body : Tryd.f7.body = some folC := by kernel_rfl
section
variable {A : Nat → Nat → Int → Int} {b off cap m : Nat} {ns : List Int} {w : World}
theorem fol_case1 (ht : TabsIn tabs36 w) (hA : ArrIn w (phKs decSh) b off m cap A) (hns : phFits decSh ns) (hl : ns.length = phSize decSh) {k s : Nat}
    (hp : FsOk (envA (namesD (dsOf ns) A m) (ns ++ [(m : Int), (cap : Int)]) A) (folK m k s)) (he : folEnter m k s = true) (hr : ∀ g, folRounds m k s g = true) :
    Calls Tryd.prog 7 (phVals decSh ns [.slice (some ⟨b, off, none⟩) m cap]).toArray w fun e w' => e = .returned (.bool true) ∧ Below w.heap.size w w' := by
  refine pays_arr_cut (rk := 3) (rs0 := folRules0) (cuts := folCuts m k s) (p := folK m k s ++ (rngF m ++ isLen 11 m)) (call := callX 11) (keep := noKeep 7) (fuel := 80) (C := folC) (fn := Tryd.f7) tabs36 tabs36_nd ht mixed (namesD (dsOf ns) A m) Tryd.func7 fol_body rfl hA hns hl ?_ ?_ ?_ ?_ (folRules0_ok (own := dsOf ns) (A := A) (m := m) rfl) he
  · exact fsOk_app hp (fsOk_app (rngF_ok (own := dsOf ns) (n := m) rfl) (isLen_ok (by rw [hl]; decide) hl))
  · intro ρ' hρ
    obtain ⟨q1, q2, q3, q4⟩ := dec_env hl hρ
    have hf : ρ'.fn = namesD (ownOf ρ') ρ'.arr (ρ'.v 11).toNat := by rw [q1, q2, q3, Int.toNat_natCast]
    exact callG_run mixed okF_ok (orSpec_ok (spEqual_ok hf ht) (spD_ok hf ht)) 30
  · intro ρ' hρ c hc t htm r hr'
    obtain ⟨q1, q2, q3, q4⟩ := dec_env hl hρ
    simp only [folCuts, List.mem_cons, List.not_mem_nil, or_false] at hc
    rcases hc with rfl | rfl
    · obtain rfl : t = folT1 m k s := by simpa [folC1] using htm
      exact betRules_ok q1 q2 r hr'
    · obtain ⟨i, _, rfl⟩ := List.mem_map.1 (show t ∈ (List.range (m + 1)).map (folT2 m k s) from htm)
      exact codRules_ok q1 q2 i r hr'
  · intro c hc t htm
    have hR : ∀ g, folRounds m k s g = true := hr
    unfold folRounds at hR
    simp only [Bool.and_eq_true] at hR
    simp only [folCuts, List.mem_cons, List.not_mem_nil, or_false] at hc
    rcases hc with rfl | rfl
    · obtain rfl : t = folT1 m k s := by simpa [folC1] using htm
      exact ⟨.leaf, fun g => CT.mk0 (hR g).1⟩
    · obtain ⟨i, hi, rfl⟩ := List.mem_map.1 (show t ∈ (List.range (m + 1)).map (folT2 m k s) from htm)
      exact ⟨.leaf, fun g => CT.mk0 (upTo_spec (hR g).2 (by have := List.mem_range.1 hi; omega))⟩
theorem fol_case (ht : TabsIn tabs36 w) (hA : ArrIn w (phKs decSh) b off m cap A) (hns : phFits decSh ns) (hl : ns.length = phSize decSh)
    (he : folAll m (folEnter m) = true) (hr : ∀ g, folAll m (fun k s => folRounds m k s g) = true) :
    Calls Tryd.prog 7 (phVals decSh ns [.slice (some ⟨b, off, none⟩) m cap]).toArray w fun e w' => e = .returned (.bool true) ∧ Below w.heap.size w w' := by
  obtain ⟨e1, e2, e3, e4⟩ := dec_env (cap := cap) hl (SameK.refl (envA (namesD (dsOf ns) A m) (ns ++ [(m : Int), (cap : Int)]) A))
  unfold folAll at he hr
  simp only [Bool.and_eq_true, List.all_eq_true, List.mem_range] at he hr
  have hk := kF_ok (A := A) (m := m) e1
  rw [e4] at hk
  obtain ⟨k0, k1, k2, k3⟩ := hk
  rcases DcLaw.cases4 (dsOf ns) (hasA A) (setA A) m with ⟨h1, h2⟩ | ⟨h1, h2, s, h3, h4⟩ | ⟨h1, h2, h3, s, h4, h5⟩ | ⟨h1, h2, h3, h4⟩
  · exact fol_case1 ht hA hns hl (fsOk_app (k0 h1) (caseF_ok e1 e2 (.inr ⟨Nat.lt_irrefl _, by rw [e4]; exact h2⟩))) he.1 fun g => (hr g).1
  · exact fol_case1 ht hA hns hl (fsOk_app (k1 h1 h2) (caseF_ok e1 e2 (.inl ⟨h3, by rw [e4]; exact h4⟩))) (he.2.2.1 s h3) fun g => (hr g).2.2.1 s h3
  · exact fol_case1 ht hA hns hl (fsOk_app (k2 h1 h2 h3) (caseF_ok e1 e2 (.inl ⟨h4, by rw [e4]; exact h5⟩))) (he.2.2.2 s h4) fun g => (hr g).2.2.2 s h4
  · exact fol_case1 ht hA hns hl (fsOk_app (k3 h1 h2 h3) (caseF_ok e1 e2 (.inr ⟨Nat.lt_irrefl _, by rw [e4]; exact h4⟩))) he.2.1 fun g => (hr g).2.1
end
end Go.Proofs.YthbfjnmdjehljaaDoor
