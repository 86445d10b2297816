/- Layer 36: the law's own function 'equal', at a call behind which no port's set is less than the clock's own. -/
import Derived.Test.YthbfjnmdjehljaaDoorDecideSlaveH
namespace Go.Proofs.YthbfjnmdjehljaaDoor
open DsLaw (lt lt_asymm lt_trans)
namespace DcLaw
section
variable {has : Nat → Bool} {set : Nat → DS} {own : DS} {n : Nat}
theorem code_better (hc : 127 < own.cls) (hb : better own has set n = true) (i : Nat) : code own has set n i ≠ 1 ∧ code own has set n i ≠ 2 ∧ code own has set n i ≠ 4 := by
  obtain ⟨b, h1, h2, h3⟩ := better_iff.1 hb
  have h0 : 0 ≤ least has set n := by
    by_cases h : 0 ≤ least has set n
    · exact h
    · rw [least_none (has := has) (set := set) (k := n) (by omega) b h1] at h2; cases h2
  have h4 := (least_spec h0).2 b h1 h2
  have h5 : ¬ (least has set n < 0 ∨ lt own (set (least has set n).toNat)) := by
    rintro (h | h)
    · omega
    · exact h4 (lt_trans h3 h)
  unfold code
  rw [if_neg (by omega), if_neg h5]
  repeat' split
  all_goals omega
/-- The four cases of a clock, and its slave port. -/
theorem cases4 (own : DS) (has : Nat → Bool) (set : Nat → DS) (n : Nat) :
    (own.cls ≤ 127 ∧ ∀ i, i < n → code own has set n i ≠ 6) ∨ (127 < own.cls ∧ better own has set n = true ∧ ∃ s, s < n ∧ code own has set n s = 6) ∨
    (127 < own.cls ∧ better own has set n = false ∧ equal own has set n = true ∧ ∃ s, s < n ∧ code own has set n s = 6) ∨
    (127 < own.cls ∧ better own has set n = false ∧ equal own has set n = false ∧ ∀ i, i < n → code own has set n i ≠ 6) := by
  by_cases hc : own.cls ≤ 127
  · refine .inl ⟨hc, fun i hi h => ?_⟩
    have := code_six h
    omega
  · have hc' : 127 < own.cls := by omega
    cases hb : better own has set n with
    | true =>
      obtain ⟨b, h1, h2, h3⟩ := better_iff.1 hb
      exact .inr (.inl ⟨hc', rfl, six_ex hc' h1 h2 (lt_asymm h3)⟩)
    | false =>
      cases he : equal own has set n with
      | true =>
        obtain ⟨b, h1, h2, h3⟩ := equal_iff.1 he
        exact .inr (.inr (.inl ⟨hc', rfl, rfl, six_ex hc' h1 h2 h3⟩))
      | false =>
        refine .inr (.inr (.inr ⟨hc', rfl, rfl, fun i hi h => ?_⟩))
        obtain ⟨q1, q2, q3, q4⟩ := six_least h hi hi
        have := equal_iff.2 ⟨i, hi, q1, q3⟩
        rw [he] at this
        cases this
end
end DcLaw
open Go Go.RowKit SX
set_option linter.unusedVariables false

section
variable {ρ : Env} {own : DS} {A : Nat → Nat → Int → Int} {n : Nat}
theorem betE_iff (hf : ρ.fn = namesD own A n) {k : E} {m : Nat} (hk : k.ev ρ = m) : (betE k).ev ρ ≠ 0 ↔ DcLaw.better own (hasA A) (setA A) m = true := by
  rw [betE_ev hf hk]; split <;> simp [*]
theorem equE_iff (hf : ρ.fn = namesD own A n) {k : E} {m : Nat} (hk : k.ev ρ = m) : (equE k).ev ρ ≠ 0 ↔ DcLaw.equal own (hasA A) (setA A) m = true := by
  rw [equE_ev hf hk]; split <;> simp [*]
theorem lessE_01 (hf : ρ.fn = namesD own A n) (a b : List E) : (lessE a b).ev ρ = 0 ∨ (lessE a b).ev ρ = 1 := by
  show ρ.fn 3 0 _ = 0 ∨ ρ.fn 3 0 _ = 1
  rw [hf]
  show lessN 0 _ = 0 ∨ lessN 0 _ = 1
  unfold lessN
  split <;> simp
theorem betE_01 (hf : ρ.fn = namesD own A n) {k : E} {m : Nat} (hk : k.ev ρ = m) : (betE k).ev ρ = 0 ∨ (betE k).ev ρ = 1 := by
  rw [betE_ev hf hk]; split <;> simp
theorem equE_01 (hf : ρ.fn = namesD own A n) {k : E} {m : Nat} (hk : k.ev ρ = m) : (equE k).ev ρ = 0 ∨ (equE k).ev ρ = 1 := by
  rw [equE_ev hf hk]; split <;> simp
theorem dec_bool {p : Prop} [Decidable p] {b : Bool} (h : p ↔ b = true) : decide p = b := by cases b <;> simp_all
theorem same01 {a b : Int} (ha : a = 0 ∨ a = 1) (hb : b = 0 ∨ b = 1) (h : a ≠ 0 ↔ b ≠ 0) : a = b := by
  rcases ha with rfl | rfl <;> rcases hb with rfl | rfl <;> simp at h ⊢
end

/-! ### The walk of 'equal' -/
def pL : E := .bin .zadd .i64 (.var 11) (.bin .zmul .i64 (.lit (-1)) (.var 13))
def pL1 : E := .bin .zadd .i64 pL (.lit 1)
def equRules : List Rule :=
  let pre : Fs := [(lt0 pL (.lit 0), false), (lt0 pL (.var 11), true)]
  [⟨pre ++ [(betE (.var 11), false), (hasE pL, true), (lessE (setE pL) ownE, true)], [(.lit 0, true)]⟩,
   ⟨pre ++ [(equE pL, true)], [(equE pL1, true)]⟩,
   ⟨pre ++ [(equE pL, false), (hasE pL, false)], [(equE pL1, false)]⟩,
   ⟨pre ++ [(equE pL, false), (hasE pL, true)], [(eq0 (equE pL1) (eq0 (lessE ownE (setE pL)) (.lit 0)), true)]⟩]
def equRules0 : List Rule := [⟨[], [(equE (.lit 0), false)]⟩]
def equT : TmR := ⟨⟨36, [(10, .int .i64 pL), (1, portsD), (2, .ptr 2 0), (5, .bool (equE pL)), (8, portsD), (9, .int .i64 (.var 11))], decBx, lenU 11 ++ [(lt0 pL (.lit 0), false), (lt0 (.var 13) (.lit 0), false), (betE (.var 11), false)]⟩, .var 13, equRules⟩
def equC : CutR := ⟨[1, 1, 0, 1, 0], 1, [equT]⟩
def equW : List SV := [.bool (equE (.var 11))]
noncomputable def equCode : Code := (Tryd.f18.body).getD .skip
section
variable {ρ : Env} {A : Nat → Nat → Int → Int} {m : Nat}
theorem equRules_ok (hf : ρ.fn = namesD (ownOf ρ) A m) (hA : ρ.arr = A) (hm : ρ.v 11 = m) : ∀ r ∈ equRules, RuleOk ρ r := by
  have hp1 : pL1.ev ρ = pL.ev ρ + 1 := rfl
  have hs1 : ∀ {x : Nat}, pL.ev ρ = x → ((lessE (setE pL) ownE).ev ρ ≠ 0 ↔ lt (setA A x) (ownOf ρ)) := fun hx => lessE_ev hf (setE_ev hA hx) ownE_ev rfl
  have hs2 : ∀ {x : Nat}, pL.ev ρ = x → ((lessE ownE (setE pL)).ev ρ ≠ 0 ↔ lt (ownOf ρ) (setA A x)) := fun hx => lessE_ev hf ownE_ev (setE_ev hA hx) rfl
  have hb : (betE (.var 11)).ev ρ ≠ 0 ↔ _ := betE_iff hf (k := .var 11) (m := m) hm
  intro r hr
  simp only [equRules, List.mem_cons, List.not_mem_nil, or_false, List.cons_append, List.nil_append] at hr
  rcases hr with rfl | rfl | rfl | rfl <;> simp only [RuleOk, fsOk_cons, fsOk_nil, and_true, iff_true, Bool.false_eq_true, iff_false] <;> simp only [lt0_ev, lit_ev, var_ev, Int.not_lt]
  · rintro ⟨h0, h1, h2, h3, h4⟩
    obtain ⟨x, hx⟩ : ∃ x : Nat, pL.ev ρ = x := ⟨(pL.ev ρ).toNat, by omega⟩
    exfalso
    rw [hasE_ev hA hx] at h3
    rw [hs1 hx] at h4
    exact h2 (hb.2 (DcLaw.better_iff.2 ⟨x, by omega, h3, h4⟩))
  · rintro ⟨h0, h1, h2⟩
    obtain ⟨x, hx⟩ : ∃ x : Nat, pL.ev ρ = x := ⟨(pL.ev ρ).toNat, by omega⟩
    rw [equE_iff hf hx] at h2
    rw [equE_iff hf (m := x + 1) (by rw [hp1, hx]; rfl)]
    simp [DcLaw.equal, h2]
  · rintro ⟨h0, h1, h2, h3⟩
    obtain ⟨x, hx⟩ : ∃ x : Nat, pL.ev ρ = x := ⟨(pL.ev ρ).toNat, by omega⟩
    rw [equE_iff hf hx, Bool.not_eq_true] at h2
    rw [hasE_ev hA hx, Bool.not_eq_true] at h3
    rw [equE_iff hf (m := x + 1) (by rw [hp1, hx]; rfl)]
    simp [DcLaw.equal, h2, h3]
  · rintro ⟨h0, h1, h2, h3⟩
    obtain ⟨x, hx⟩ : ∃ x : Nat, pL.ev ρ = x := ⟨(pL.ev ρ).toNat, by omega⟩
    rw [equE_iff hf hx, Bool.not_eq_true] at h2
    rw [hasE_ev hA hx] at h3
    have hx1 : pL1.ev ρ = (x + 1 : Nat) := by rw [hp1, hx]; rfl
    rw [eq0_ev]
    refine same01 (equE_01 hf hx1) ?_ ?_
    · have : (eq0 (lessE ownE (setE pL)) (.lit 0)).ev ρ = if (lessE ownE (setE pL)).ev ρ = 0 then (1 : Int) else 0 := rfl
      rw [this]
      split <;> simp
    · rw [equE_iff hf hx1, eq0_ev, lit_ev]
      have := hs2 hx
      simp only [DcLaw.equal, h2, h3, Bool.false_or, Bool.true_and, Bool.not_eq_true', decide_eq_false_iff_not, ← this]
      exact Decidable.not_not
theorem equRules0_ok {own : DS} (hf : ρ.fn = namesD own A m) : ∀ r ∈ equRules0, RuleOk ρ r := by
  intro r hr
  simp only [equRules0, List.mem_cons, List.not_mem_nil, or_false] at hr
  subst hr
  simp only [RuleOk, fsOk_cons, fsOk_nil, and_true, Bool.false_eq_true, iff_false]
  intro _
  rw [equE_iff hf (m := 0) rfl]
  simp [DcLaw.equal]
end
set_option maxRecDepth 1000000 in
theorem equ_enter : ((execP Tryd.prog (tabGl tabs36 0) callC (noKeep 18) 80 equCode (entrySt Tryd.f18 (phArgs tabs36.length (phSize decSh) none decSh 0) (arrHp tabs36 (phKs decSh) (phSize decSh)) ([(betE (.var 11), false)] ++ (lenU (phSize decSh) ++ phFacts decSh 0)))).all (leafOkR (tabGl tabs36 0) [equC] (wantEnd Tryd.prog Tryd.f18 equW []) (phSize decSh + 2) equRules0 2)) = true := by kernel_rfl
set_option maxRecDepth 1000000 in
theorem equ_round (g : Nat → Value) : roundOkR Tryd.prog (tabGl tabs36 0) callC (noKeep 18) 80 [equC] (wantEnd Tryd.prog Tryd.f18 equW []) (phSize decSh + 2) equCode [] equC equT g = true := by kernel_rfl
set_option maxRecDepth 1000000 in
theorem equ_body : Tryd.f18.body = some equCode := by kernel_rfl
theorem equ_calls {b off len cap : Nat} {A : Nat → Nat → Int → Int} {w : World} {ns : List Int} (ht : TabsIn tabs36 w) (h : ArrIn w portLk b off len cap A) (hns : phFits decSh ns) (hlen : ns.length = 11) (hb : DcLaw.better (dsOf ns) (hasA A) (setA A) len = false) :
    Calls Tryd.prog 18 #[dsV (dsOf ns), .slice (some ⟨b, off, none⟩) len cap] w fun e w' => e = .returned (.bool (DcLaw.equal (dsOf ns) (hasA A) (setA A) len)) ∧ Below w.heap.size w w' := by
  have hv : (envA (namesD (dsOf ns) A len) (ns ++ [(len : Int), (cap : Int)]) A).v 11 = len := by show (ns ++ [(len : Int), (cap : Int)]).getD 11 0 = len; rw [← hlen]; simp
  have hr := fn_arr_val (hs := decSh) (ns := ns) (p := [(betE (.var 11), false)]) (rk := 2) (rs0 := equRules0) (cuts := [equC]) (want := equW) (call := callC) (keep := noKeep 18) (fuel := 80) tabs36 tabs36_nd ht mixed (namesD (dsOf ns) A len) Tryd.func18 equ_body rfl h hns hlen
    (by
      rw [fsOk_cons, fsOk_nil, betE_iff (own := dsOf ns) (A := A) (n := len) (k := .var 11) rfl hv, hb]
      exact ⟨Iff.rfl, trivial⟩) rfl rfl
    (fun ρ' hρ => callC_ok (n := len) (own := ownOf ρ') (by obtain ⟨q1, q2, _⟩ := dec_env hlen hρ; rw [q1, q2]) ht)
    (fun ρ' hρ c hc t htm r hr => by
      obtain rfl : c = equC := by simpa using hc
      obtain rfl : t = equT := by simpa [equC] using htm
      obtain ⟨q1, q2, q3, _⟩ := dec_env hlen hρ
      exact equRules_ok q1 q2 q3 r hr)
    (fun c hc t htm => by
      obtain rfl : c = equC := by simpa using hc
      obtain rfl : t = equT := by simpa [equC] using htm
      exact ⟨.leaf, fun g => CT.mk0 (equ_round g)⟩)
    (equRules0_ok (own := dsOf ns) (A := A) (m := len) rfl) equ_enter
  refine hr.mono fun e w' ⟨he, hb⟩ => ⟨?_, hb⟩
  rw [he]
  have := equE_iff (own := dsOf ns) (A := A) (n := len) (ρ := envA (namesD (dsOf ns) A len) (ns ++ [(len : Int), (cap : Int)]) A) (k := .var 11) rfl hv
  show Ending.returned (.bool (decide ((equE (.var 11)).ev _ ≠ 0))) = _
  rw [dec_bool this]

/-! ### At a call -/
def spEqual (l : Nat) : Spc := fun f args hp fs =>
  if f = 18 ∧ SV.fitL fs (fun i => .var i) id hp.n [ownS, portsAt l] args = true ∧ isPorts l hp = true then
    match litNat (canon fs (.var l)) with
    | some m => if 1 ≤ m ∧ isLit (decideE fs (eq0 (betE (litN m)) (.lit 0))) = true then some ⟨.bool (equE (litN m)), hp, fs⟩ else none
    | none => none
  else none
theorem spEqual_ok {ρ : Env} {w0 : World} {gl : Gl} {l : Nat} (hf : ρ.fn = namesD (ownOf ρ) ρ.arr (ρ.v l).toNat) (ht : TabsIn tabs36 w0) : SpecOk Tryd.prog ρ w0 (fun _ => False) gl (spEqual l) := fun f args hp fs o h β w hh hfs ha hg => by
  unfold spEqual at h
  split at h
  · rename_i hc
    obtain ⟨rfl, c2, c3⟩ := hc
    split at h
    · rename_i m hm
      split at h
      · rename_i hm8
        obtain rfl := Option.some.inj h
        obtain ⟨f1, f2⟩ := SV.fitL_spec (β := β) (m := hp.n) hfs _ _ c2
        rw [envSub_var] at f1 f2
        have ha' := f2 ha
        have hv11 : ρ.v l = m := by
          have h1 := canon_ev (ρ := ρ) (fs := fs) hfs (.var l)
          unfold litNat at hm
          split at hm
          · rename_i q hq
            obtain rfl := Option.some.inj hm
            rw [hq] at h1
            exact h1.symm
          · cases hm
        obtain ⟨a1, a2, _⟩ := ha'
        obtain ⟨b1, b2, b3, b4, b5⟩ := a2
        have h3 : ρ.v l ≤ 9223372036854775807 := by
          have i2 : IntKind.i64.max = 9223372036854775807 := by decide
          have := ((wf_iff .i64 _).1 b2).2
          rw [i2] at this
          exact this
        unfold isPorts at c3
        split at c3
        · rename_i r ks l0 hk
          simp only [Bool.and_eq_true] at c3
          obtain rfl := lksEq_spec c3.1
          obtain rfl := E.beq_eq _ _ c3.2
          have hA := ArrIn.of_heap hh hk rfl (len := .var l) (cap := .var (l + 1)) (by rw [var_ev, hv11]; omega) b4 h3
          rw [var_ev, hv11, Int.toNat_natCast] at hA
          have hfits : phFits decSh [ρ.v 0, ρ.v 1, ρ.v 2, ρ.v 3, ρ.v 4, ρ.v 5, ρ.v 6, ρ.v 7, ρ.v 8, ρ.v 9, ρ.v 10] := by
            obtain ⟨d0, d1, d2, d3, d4, d5, d6, d7, d8, d9, d10, _⟩ := a1
            exact ⟨⟨d0, d1, d2, d3, d4, d5, d6, d7, d8, d9, d10, trivial⟩, trivial⟩
          have hargs : SV.evs ρ β args = [dsV (dsOf [ρ.v 0, ρ.v 1, ρ.v 2, ρ.v 3, ρ.v 4, ρ.v 5, ρ.v 6, ρ.v 7, ρ.v 8, ρ.v 9, ρ.v 10]), .slice (some ⟨(β 1).1, (β 1).2, none⟩) m (ρ.v (l + 1)).toNat] := by
            rw [f1]
            show [SV.ev ρ β ownS, SV.ev ρ β (portsAt l)] = _
            have : SV.ev ρ β (portsAt l) = .slice (some ⟨(β 1).1, (β 1).2, none⟩) m (ρ.v (l + 1)).toNat := by
              simp only [portsAt, SV.ev, var_ev, hv11, Int.toNat_natCast, Nat.add_zero]
            rw [this]
            rfl
          rw [hargs]
          have hfm : ρ.fn = namesD (dsOf [ρ.v 0, ρ.v 1, ρ.v 2, ρ.v 3, ρ.v 4, ρ.v 5, ρ.v 6, ρ.v 7, ρ.v 8, ρ.v 9, ρ.v 10]) ρ.arr m := by
            rw [hf, hv11, Int.toNat_natCast]
            rfl
          have hno : DcLaw.better (dsOf [ρ.v 0, ρ.v 1, ρ.v 2, ρ.v 3, ρ.v 4, ρ.v 5, ρ.v 6, ρ.v 7, ρ.v 8, ρ.v 9, ρ.v 10]) (hasA ρ.arr) (setA ρ.arr) m = false := by
            have h4 : (eq0 (betE (litN m)) (.lit 0)).ev ρ ≠ 0 := of_decide_eq_true (decideE_spec hfs (isLit_spec hm8.2))
            rw [eq0_ev, lit_ev] at h4
            have := betE_iff hfm (k := litN m) (m := m) rfl
            rw [h4] at this
            simpa using this
          refine (equ_calls (TabsIn.kept ht hh.kept) hA hfits rfl hno).mono fun e w' ⟨he, hb⟩ => ⟨β, Ext.refl _ _, Nat.le_refl _, Stay.refl _, hh.below hb, hfs, trivial, ?_⟩
          rw [he]
          have := equE_iff hfm (k := litN m) (m := m) rfl
          show _ = Ending.returned (.bool (decide ((equE (litN m)).ev ρ ≠ 0)))
          rw [dec_bool this]
        · cases c3
      · cases h
    · cases h
  · cases h
end Go.Proofs.YthbfjnmdjehljaaDoor
