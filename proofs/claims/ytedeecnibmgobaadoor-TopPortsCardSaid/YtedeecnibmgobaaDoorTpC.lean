/- For TopPorts: the decision: its templates, and the rules by which the codes are what they are named. -/
import Derived.Test.YtedeecnibmgobaaDoorTpB
namespace Go.Proofs.YtedeecnibmgobaaDoor
open Go Go.RowKit SX
open DsLaw (lt)
set_option linter.unusedVariables false

/-! ### The least set, at a call -/
def isLit : Option Bool → Bool
  | some true => true
  | _ => false
def spLeast : Spc := fun f args hp fs => match args with
  | [.inp k z o l0 l c] => match hp.at k with
    | some ⟨_, .arr 0 ks l0'⟩ => if f = 12 ∧ lksEq ks portLk = true ∧ o = 0 ∧ l0'.beq l = true ∧ isLit (decideE fs (lt0 (.lit 0) l)) = true
      then some ⟨.int .i64 (leastE l), hp, learnAll [(lt0 (leastE l) (.lit (-1)), false), (lt0 (leastE l) l, true)] fs⟩ else none
    | _ => none
  | _ => none
theorem isLit_spec {o : Option Bool} (h : isLit o = true) : o = some true := by
  unfold isLit at h
  split at h
  · rfl
  · cases h
section
variable {ρ : Env} {own : DS} {n : Nat} {w0 : World} {gl : Gl}
theorem spLeast_ok (hf : ρ.fn = namesD own ρ.arr n) (ht : TabsIn tabsT w0) : SpecOk Tryd.prog ρ w0 (fun _ => False) gl spLeast := fun f args hp fs o h β w hh hfs ha hg => by
  unfold spLeast at h
  split at h
  · rename_i k z off l0 l c
    split at h
    · rename_i r ks l0' hk
      split at h
      · rename_i hc
        obtain ⟨c1, c2, rfl, c4, c5⟩ := hc
        obtain rfl := Option.some.inj h
        obtain rfl := lksEq_spec c2
        obtain rfl := E.beq_eq _ _ c4
        have h1 := lt_of_decide hfs (isLit_spec c5)
        obtain ⟨a1, _⟩ := ha
        obtain ⟨a1, a2, a3, a4, a5⟩ := a1
        have h3 : l0'.ev ρ ≤ 9223372036854775807 := by
          have i2 : IntKind.i64.max = 9223372036854775807 := by decide
          have := ((wf_iff .i64 _).1 a2).2
          rwa [i2] at this
        have hA := ArrIn.of_heap hh hk rfl (len := l0') (cap := c) h1 a4 h3
        have hl : l0'.ev ρ = ((l0'.ev ρ).toNat : Int) := by have h0 : (0 : Int) < l0'.ev ρ := h1; omega
        have hle := leastE_ev (A := ρ.arr) hf hl
        have hrng := DcLaw.least_rng (has := hasA ρ.arr) (set := setA ρ.arr) (l0'.ev ρ).toNat
        have hlen := (wf_iff .i64 _).1 a2
        have i1 : IntKind.i64.min = -9223372036854775808 := by decide
        have i2 : IntKind.i64.max = 9223372036854775807 := by decide
        rw [i1, i2] at hlen
        have fin : Calls Tryd.prog f (SV.evs ρ β [SV.inp k z 0 l0 l0' c]).toArray w fun e w' => e = .returned (.int .i64 (DcLaw.least (hasA ρ.arr) (setA ρ.arr) (l0'.ev ρ).toNat)) ∧ Below w.heap.size w w' := by
          have e : SV.evs ρ β [SV.inp k z 0 l0 l0' c] = [.slice (some ⟨(β k).1, (β k).2, none⟩) (l0'.ev ρ).toNat (c.ev ρ).toNat] := by simp only [SV.evs, SV.ev, Nat.add_zero]
          rw [e]
          subst c1
          exact leastA_calls (TabsIn.kept ht hh.kept) hA
        refine fin.mono fun e w' ⟨he, hb⟩ => ⟨β, Ext.refl _ _, Nat.le_refl _, Stay.refl _, hh.below hb, learnAll_ok ?_ hfs, ?_, ?_⟩
        · rw [fsOk_cons, fsOk_cons, fsOk_nil, lt0_ev, lt0_ev, hle, lit_ev]
          refine ⟨?_, ?_, trivial⟩
          · simp only [Bool.false_eq_true, iff_false]; omega
          · simp only [iff_true]; omega
        · show (Lit.int .i64 ((leastE l0').ev ρ)).wf = true
          rw [hle]
          exact (wf_iff .i64 _).2 (by rw [i1, i2]; omega)
        · rw [he]
          show Ending.returned (.int .i64 _) = Ending.returned (.int .i64 ((leastE l0').ev ρ))
          rw [hle]
      · cases h
    · cases h
  · cases h
end
def spC : Spc := orSpec spLeast (sumSpec sumsL)
noncomputable def callC : Caller := callG Tryd.prog (tabGl tabsT 0) okF spC noKeep 80 30
theorem callC_ok {ρ : Env} {own : DS} {n : Nat} {w0 : World} (hf : ρ.fn = namesD own ρ.arr n) (ht : TabsIn tabsT w0) : CallOk Tryd.prog ρ w0 (fun _ => False) (tabGl tabsT 0) callC :=
  callG_run mixed okF_ok (orSpec_ok (spLeast_ok hf ht) (sumSpec_ok (sumsL_ok ρ (by rw [hf]; rfl) ht))) 30

/-! ### The rules -/
def ownE : List E := [.var 0, .var 1, .var 2, .var 3, .var 4, .var 5, .var 6, .var 7, .var 8, .var 9, .var 10]
def bstE (m : Nat) : E := leastE (litN m)
def furE (m : Nat) (st : E) (i : Nat) : List E := [.rd 0 11 (bstE m), .rd 0 19 (bstE m), .rd 0 27 (bstE m), .rd 0 35 (bstE m), .rd 0 43 (bstE m), .rd 0 55 (bstE m), st, .var 7, litN (i + 1), .rd 0 87 (litN i), litN (i + 1)]
def stE (m : Nat) : E := .rd 0 59 (bstE m)
def stE1 (m : Nat) : E := .bin .zadd .i64 (stE m) (.lit 1)
def decRules (m i : Nat) : List Rule :=
  let lo : E × Bool := (lt0 (.lit 127) (.var 1), false)
  let hi : E × Bool := (lt0 (.lit 127) (.var 1), true)
  let has : E := eq0 (hasE (litN i)) (.lit 0)
  let lI : E := lessE ownE (setE (litN i))
  let lB : E := lessE ownE (setE (bstE m))
  let no : E := lt0 (bstE m) (.lit 0)
  let is : E := eq0 (bstE m) (litN i)
  let big : E := lt0 (.rd 0 59 (leastE (.var 11))) (.lit 4611686018427387904)
  let c (n : Int) : Fs := [(eq0 (codeE i) (.lit n), true)]
  [⟨[lo, (has, true)], c 1⟩, ⟨[lo, (has, false), (lI, true)], c 1⟩, ⟨[lo, (has, false), (lI, false)], c 4⟩,
   ⟨[hi, (no, true)], c 2⟩, ⟨[hi, (no, false), (lB, true)], c 2⟩, ⟨[hi, (no, false), (lB, false), (is, true)], c 6⟩,
   ⟨[hi, (no, false), (lB, false), (is, false), (has, true)], c 3⟩,
   ⟨[hi, (no, false), (lB, false), (is, false), (has, false), (big, true), (lessE (furE m (stE1 m) i) (setE (litN i)), true)], c 3⟩,
   ⟨[hi, (no, false), (lB, false), (is, false), (has, false), (big, true), (lessE (furE m (stE1 m) i) (setE (litN i)), false)], c 5⟩,
   ⟨[hi, (no, false), (lB, false), (is, false), (has, false), (big, false), (lessE (furE m (stE m) i) (setE (litN i)), true)], c 3⟩,
   ⟨[hi, (no, false), (lB, false), (is, false), (has, false), (big, false), (lessE (furE m (stE m) i) (setE (litN i)), false)], c 5⟩]
/-- The clock's own data set, by the first variables. -/
def ownOf (ρ : Env) : DS := ⟨ρ.v 0, ρ.v 1, ρ.v 2, ρ.v 3, ρ.v 4, ρ.v 5, ρ.v 6, ρ.v 7, ρ.v 8, ρ.v 9, ρ.v 10⟩
section
variable {ρ : Env} {A : Nat → Nat → Int → Int}
theorem ownE_ev (l : List Int) : dsOf (E.evs ρ ownE ++ l) = ownOf ρ := rfl
theorem decRules_ok {m : Nat} (hf : ρ.fn = namesD (ownOf ρ) A m) (hA : ρ.arr = A) (hm : ρ.v 11 = m) (i : Nat) : ∀ r ∈ decRules m i, RuleOk ρ r := by
  have hb : (bstE m).ev ρ = DcLaw.least (hasA A) (setA A) m := leastE_ev hf rfl
  have hb' : (leastE (.var 11)).ev ρ = DcLaw.least (hasA A) (setA A) m := leastE_ev hf hm
  have hcd : (codeE i).ev ρ = DcLaw.code (ownOf ρ) (hasA A) (setA A) m i := codeE_ev hf i
  have hhas : (eq0 (hasE (litN i)) (.lit 0)).ev ρ ≠ 0 ↔ hasA A i = false := by
    rw [eq0_ev, lit_ev]
    have := hasE_ev hA (i := litN i) (k := i) rfl
    rw [← Bool.not_eq_true, ← this]
    exact Decidable.not_not.symm
  have hlI : (lessE ownE (setE (litN i))).ev ρ ≠ 0 ↔ lt (ownOf ρ) (setA A i) := lessE_ev hf ownE_ev (setE_ev hA rfl) rfl
  have hnat : 0 ≤ (bstE m).ev ρ → (bstE m).ev ρ = ((DcLaw.least (hasA A) (setA A) m).toNat : Int) := fun h => by rw [hb] at h ⊢; omega
  have hlB : 0 ≤ (bstE m).ev ρ → ((lessE ownE (setE (bstE m))).ev ρ ≠ 0 ↔ lt (ownOf ρ) (setA A (DcLaw.least (hasA A) (setA A) m).toNat)) := fun h => lessE_ev hf ownE_ev (setE_ev hA (hnat h)) rfl
  have hbig : 0 ≤ (bstE m).ev ρ → (E.rd 0 59 (leastE (.var 11))).ev ρ = (setA A (DcLaw.least (hasA A) (setA A) m).toNat).steps := fun h => by
    have := hnat h
    rw [rd_ev hA, hb', ← hb, this]
    rfl
  have hst : 0 ≤ (bstE m).ev ρ → (stE m).ev ρ = (setA A (DcLaw.least (hasA A) (setA A) m).toNat).steps := fun h => by
    show (E.rd 0 59 (bstE m)).ev ρ = _
    rw [rd_ev hA, hnat h]
    rfl
  have hfur : 0 ≤ (bstE m).ev ρ → ∀ st, st.ev ρ = (if (setA A (DcLaw.least (hasA A) (setA A) m).toNat).steps < 4611686018427387904 then (setA A (DcLaw.least (hasA A) (setA A) m).toNat).steps + 1 else (setA A (DcLaw.least (hasA A) (setA A) m).toNat).steps) →
      ((lessE (furE m st i) (setE (litN i))).ev ρ ≠ 0 ↔ lt (DcLaw.further (setA A (DcLaw.least (hasA A) (setA A) m).toNat) (ownOf ρ) ((i : Int) + 1) (setA A i)) (setA A i)) := fun h st hs => by
    refine lessE_ev hf (fun l => ?_) (setE_ev hA rfl) rfl
    simp only [furE, E.evs, rd_ev hA, hnat h, hs, List.cons_append, List.nil_append, dsOf, List.headD_cons, List.tail_cons, litN_ev, var_ev, DcLaw.further, setA, ownOf, Int.natCast_succ]
  intro r hr
  simp only [decRules, List.mem_cons, List.not_mem_nil, or_false] at hr
  rcases hr with rfl | rfl | rfl | rfl | rfl | rfl | rfl | rfl | rfl | rfl | rfl <;>
    simp only [RuleOk, fsOk_cons, fsOk_nil, and_true, hhas, hlI] <;> rw [eq0_ev] <;> simp only [lt0_ev, eq0_ev, lit_ev, litN_ev, var_ev, iff_true, Bool.false_eq_true, iff_false, Int.not_lt, hcd, Bool.not_eq_false]
  · rintro ⟨h1, h2⟩
    unfold DcLaw.code
    rw [if_pos (show (ownOf ρ).cls ≤ 127 from h1), if_pos (.inl h2)]
  · rintro ⟨h1, h2, h3⟩
    unfold DcLaw.code
    rw [if_pos (show (ownOf ρ).cls ≤ 127 from h1), if_pos (.inr h3)]
  · rintro ⟨h1, h2, h3⟩
    unfold DcLaw.code
    rw [if_pos (show (ownOf ρ).cls ≤ 127 from h1), if_neg (by rw [h2]; simpa using h3)]
  · rintro ⟨h1, h2⟩
    unfold DcLaw.code
    rw [if_neg (show ¬ (ownOf ρ).cls ≤ 127 from Int.not_le.2 h1), if_pos (.inl (hb ▸ h2))]
  · rintro ⟨h1, h2, h3⟩
    unfold DcLaw.code
    rw [if_neg (show ¬ (ownOf ρ).cls ≤ 127 from Int.not_le.2 h1), if_pos (.inr ((hlB h2).1 h3))]
  all_goals
    intro h
    obtain ⟨h1, h2, h3, h4⟩ := h
    rw [hlB h2] at h3
    have e1 : ¬ (ownOf ρ).cls ≤ 127 := Int.not_le.2 h1
    have e2 : ¬ (DcLaw.least (hasA A) (setA A) m < 0 ∨ lt (ownOf ρ) (setA A (DcLaw.least (hasA A) (setA A) m).toNat)) := by
      rintro (h5 | h5)
      · rw [hb] at h2; omega
      · exact h3 h5
    unfold DcLaw.code
    rw [if_neg e1, if_neg e2]
  · rw [if_pos (by rw [← hb, h4])]
  · rw [if_neg (by rw [← hb]; exact fun h => h4.1 h.symm), if_pos (.inl h4.2)]
  all_goals
    obtain ⟨h4, h5, h6, h7⟩ := h4
    rw [hbig h2] at h6
    rw [if_neg (by rw [← hb]; exact fun h => h4 h.symm)]
  · rw [hfur h2 _ (by rw [if_pos h6]; show (stE m).ev ρ + 1 = _; rw [hst h2])] at h7
    rw [if_pos (.inr h7)]
  · rw [hfur h2 _ (by rw [if_pos h6]; show (stE m).ev ρ + 1 = _; rw [hst h2])] at h7
    rw [if_neg]
    rintro (h8 | h8)
    · rw [h5] at h8; cases h8
    · exact h7 h8
  · rw [hfur h2 _ (by rw [if_neg (Int.not_lt.2 h6), hst h2])] at h7
    rw [if_pos (.inr h7)]
  · rw [hfur h2 _ (by rw [if_neg (Int.not_lt.2 h6), hst h2])] at h7
    rw [if_neg]
    rintro (h8 | h8)
    · rw [h5] at h8; cases h8
    · exact h7 h8
end

/-! ### The templates -/
def dsVs : List Lk → List E → List SV := fun l es => List.zipWith (fun l e => match l with
  | .int k => SV.int k e
  | .bool => SV.bool e) l es
def decSh : List Ph := [.sh dsSh, .sl portLk]
def portsD : SV := .inp 1 12 0 (.var 11) (.var 11) (.var 12)
def decBx : List Box := [tabBx, ⟨false, .arr 0 portLk (.var 11)⟩, ⟨true, .cells (dsVs dsLk ownE) 24 0⟩]
def lenIs (m : Nat) : Fs := [(eq0 (.var 11) (litN m), true)]
def decFacts (m : Nat) : Fs := lenIs m ++ (lenU 11 ++ [(lt0 (leastE (.var 11)) (.lit (-1)), false), (lt0 (leastE (.var 11)) (.var 11), true), (lt0 (leastE (.var 11)) (litN m), true)])
def codesUp (m i : Nat) : List SV := (List.range m).map fun j => .int .i64 (if j < i then codeE j else .lit 0)
def codesS (m : Nat) : List SV := (List.range m).map fun j => .int .i64 (codeE j)
def decTA (m i : Nat) : TmR := ⟨⟨83, [(23, .int .i64 (litN i)), (1, portsD), (2, .ptr 2 0), (6, .ptr 3 0), (7, .func 13 [] [.ptr 3 0]), (8, .slice 4 0 i (some m)), (21, portsD), (22, .int .i64 (.var 11))],
  decBx ++ [⟨true, .cells [.int .i64 (leastE (.var 11))] 3 0⟩, ⟨true, .cells (codesUp m i) 3 0⟩], decFacts m⟩, litN (m - i), decRules m i⟩
def decCA (m : Nat) : CutR := ⟨[1, 1, 1, 1, 1, 0, 1, 0], 1, (List.range (m + 1)).map (decTA m)⟩
def decWA (m : Nat) : List SV := [.slice 4 0 m (some m), .int .i64 (.lit 0)]
noncomputable def decCodeA : Code := (Tryd.f4.body).getD .skip
noncomputable def decEnterA (m : Nat) : Bool := (execP Tryd.prog (tabGl tabsT 0) callC (noKeep 4) 80 decCodeA (entrySt Tryd.f4 (phArgs tabsT.length (phSize decSh) none decSh 0) (arrHp tabsT (phKs decSh) (phSize decSh)) (lenIs m ++ (lenU (phSize decSh) ++ phFacts decSh 0)))).all (leafOkR (tabGl tabsT 0) [decCA m] (wantEnd Tryd.prog Tryd.f4 (decWA m) [(4, .cells (codesS m) 3 0)]) (phSize decSh + 2) [] 2)
noncomputable def decRoundA (m i : Nat) (g : Nat → Value) : Bool := roundOkR Tryd.prog (tabGl tabsT 0) callC (noKeep 4) 80 [decCA m] (wantEnd Tryd.prog Tryd.f4 (decWA m) [(4, .cells (codesS m) 3 0)]) (phSize decSh + 2) decCodeA [] (decCA m) (decTA m i) g
def upTo (m : Nat) (p : Nat → Bool) : Bool := (List.range (m + 1)).all p
end Go.Proofs.YtedeecnibmgobaaDoor
