/- For TopPorts: the first port with the least set, by the program and by the reference. -/
import Derived.Test.YtedeecnibmgobaaDoorTpA
namespace Go.Proofs.YtedeecnibmgobaaDoor
open Go Go.RowKit SX
open DsLaw (lt)
set_option linter.unusedVariables false

noncomputable def callL : Caller := callG Tryd.prog (tabGl tabsT 0) okF (sumSpec sumsL) noKeep 80 30
def lI : E := .bin .zadd .i64 (.var 0) (.bin .zmul .i64 (.lit (-1)) (.var 2))
def lI1 : E := .bin .zadd .i64 lI (.lit 1)
def portsL : SV := .inp 1 12 0 (.var 0) (.var 0) (.var 1)
def tabBx : Box := ⟨false, .ro (cellsF.map ofLeaf)⟩
def leastFacts : Fs := lenU 0 ++ [(lt0 lI (.lit 0), false), (lt0 (.var 2) (.lit 0), false), (lt0 (leastE lI) (.lit (-1)), false), (lt0 (leastE lI) (.var 0), true)]
def leastTm (sz : Nat) (live : List (Nat × SV)) : Tm := ⟨sz, live, [tabBx, ⟨false, .arr 0 portLk (.var 0)⟩], leastFacts⟩
def leastRules : List Rule :=
  let no : E × Bool := (lt0 lI (.lit 0), false)
  [⟨[no, (hasE lI, false)], [(eq0 (leastE lI1) (leastE lI), true)]⟩,
   ⟨[no, (hasE lI, true), (lt0 (leastE lI) (.lit 0), true)], [(eq0 (leastE lI1) lI, true)]⟩,
   ⟨[no, (hasE lI, true), (lt0 (leastE lI) (.lit 0), false), (lessE (setE lI) (setE (leastE lI)), true)], [(eq0 (leastE lI1) lI, true)]⟩,
   ⟨[no, (hasE lI, true), (lt0 (leastE lI) (.lit 0), false), (lessE (setE lI) (setE (leastE lI)), false)], [(eq0 (leastE lI1) (leastE lI), true)]⟩,
   ⟨[no, (lt0 lI (.var 0), true)], [(lt0 (leastE lI1) (.lit (-1)), false), (lt0 (leastE lI1) (.var 0), true)]⟩]
def leastRules0 : List Rule := [⟨[], [(eq0 (leastE (.lit 0)) (.lit (-1)), true)]⟩]
def leastTA : TmR := ⟨leastTm 32 [(8, .int .i64 lI), (0, portsL), (3, .int .i64 (leastE lI)), (6, portsL), (7, .int .i64 (.var 0))], .var 2, leastRules⟩
def leastCA : CutR := ⟨[1, 1, 0, 1, 0], 1, [leastTA]⟩
def leastW : List SV := [.int .i64 (leastE (.var 0))]
noncomputable def leastCodeA : Code := (Tryd.f12.body).getD .skip
section
variable {ρ : Env} {own : DS} {A : Nat → Nat → Int → Int} {n : Nat}
theorem leastRules_ok (hf : ρ.fn = namesD own A n) (hA : ρ.arr = A) : ∀ r ∈ leastRules, RuleOk ρ r := by
  have h1 : lI1.ev ρ = lI.ev ρ + 1 := rfl
  have key : ∀ {x : Nat}, lI.ev ρ = x → (leastE lI1).ev ρ = DcLaw.least (hasA A) (setA A) (x + 1) := fun hx => leastE_ev hf (by rw [h1, hx]; rfl)
  have hset : ∀ {x : Nat}, lI.ev ρ = x → 0 ≤ (leastE lI).ev ρ → ((lessE (setE lI) (setE (leastE lI))).ev ρ ≠ 0 ↔ lt (setA A x) (setA A (DcLaw.least (hasA A) (setA A) x).toNat)) := fun {x} hx h0 => by
    have e := leastE_ev hf hx
    exact lessE_ev hf (setE_ev hA hx) (setE_ev hA (k := (DcLaw.least (hasA A) (setA A) x).toNat) (by rw [e] at h0 ⊢; omega)) rfl
  intro r hr
  simp only [leastRules, List.mem_cons, List.not_mem_nil, or_false] at hr
  rcases hr with rfl | rfl | rfl | rfl | rfl <;> simp only [RuleOk, fsOk_cons, fsOk_nil, and_true, lt0_ev, eq0_ev, lit_ev, var_ev, iff_true, Bool.false_eq_true, iff_false, Int.not_lt]
  · rintro ⟨h0, h2⟩
    obtain ⟨x, hx⟩ : ∃ x : Nat, lI.ev ρ = x := ⟨(lI.ev ρ).toNat, by omega⟩
    rw [hasE_ev hA hx] at h2
    rw [key hx, leastE_ev hf hx]
    show (if _ then _ else _) = _
    rw [if_neg (fun h => h2 h.1)]
  · rintro ⟨h0, h2, h3⟩
    obtain ⟨x, hx⟩ : ∃ x : Nat, lI.ev ρ = x := ⟨(lI.ev ρ).toNat, by omega⟩
    rw [hasE_ev hA hx] at h2
    rw [leastE_ev hf hx] at h3
    rw [key hx, hx]
    show (if _ then _ else _) = _
    rw [if_pos ⟨h2, .inl h3⟩]
  · rintro ⟨h0, h2, h3, h4⟩
    obtain ⟨x, hx⟩ : ∃ x : Nat, lI.ev ρ = x := ⟨(lI.ev ρ).toNat, by omega⟩
    rw [hasE_ev hA hx] at h2
    rw [hset hx h3] at h4
    rw [key hx, hx]
    show (if _ then _ else _) = _
    rw [if_pos ⟨h2, .inr h4⟩]
  · rintro ⟨h0, h2, h3, h4⟩
    obtain ⟨x, hx⟩ : ∃ x : Nat, lI.ev ρ = x := ⟨(lI.ev ρ).toNat, by omega⟩
    rw [hset hx h3] at h4
    rw [leastE_ev hf hx] at h3
    rw [key hx, leastE_ev hf hx]
    show (if _ then _ else _) = _
    rw [if_neg]
    rintro ⟨_, h5 | h5⟩
    · omega
    · exact h4 h5
  · rintro ⟨h0, h2⟩
    obtain ⟨x, hx⟩ : ∃ x : Nat, lI.ev ρ = x := ⟨(lI.ev ρ).toNat, by omega⟩
    have := DcLaw.least_rng (has := hasA A) (set := setA A) (x + 1)
    rw [key hx]
    omega
theorem leastRules0_ok (hf : ρ.fn = namesD own A n) : ∀ r ∈ leastRules0, RuleOk ρ r := by
  intro r hr
  simp only [leastRules0, List.mem_cons, List.not_mem_nil, or_false] at hr
  subst hr
  simp only [RuleOk, fsOk_cons, fsOk_nil, and_true, eq0_ev, lit_ev, iff_true]
  intro _
  rw [leastE_ev hf (m := 0) rfl]
  rfl
end
set_option maxRecDepth 1000000 in
theorem leastA_enter : ((execP Tryd.prog (tabGl tabsT 0) callL (noKeep 12) 80 leastCodeA (entrySt Tryd.f12 (phArgs tabsT.length (phSize [.sl portLk]) none [.sl portLk] 0) (arrHp tabsT (phKs [.sl portLk]) (phSize [.sl portLk])) ([] ++ (lenU (phSize [.sl portLk]) ++ phFacts [.sl portLk] 0)))).all (leafOkR (tabGl tabsT 0) [leastCA] (wantEnd Tryd.prog Tryd.f12 leastW []) (phSize [.sl portLk] + 2) leastRules0 2)) = true := by kernel_rfl
set_option maxRecDepth 1000000 in
theorem leastA_round (g : Nat → Value) : roundOkR Tryd.prog (tabGl tabsT 0) callL (noKeep 12) 80 [leastCA] (wantEnd Tryd.prog Tryd.f12 leastW []) (phSize [.sl portLk] + 2) leastCodeA [] leastCA leastTA g = true := by kernel_rfl
set_option maxRecDepth 1000000 in
theorem leastA_body : Tryd.f12.body = some leastCodeA := by kernel_rfl
section
variable {b off len cap : Nat} {A : Nat → Nat → Int → Int} {w : World}
theorem leastA_calls (ht : TabsIn tabsT w) (h : ArrIn w portLk b off len cap A) : Calls Tryd.prog 12 #[.slice (some ⟨b, off, none⟩) len cap] w fun e w' => e = .returned (.int .i64 (DcLaw.least (hasA A) (setA A) len)) ∧ Below w.heap.size w w' := by
  have hf : ∀ ρ', SameK (phSize [.sl portLk] + 2) (envA (namesD DsLaw.z A len) ([] ++ [(len : Int), (cap : Int)]) A) ρ' → ρ'.fn = namesD DsLaw.z A len ∧ ρ'.arr = A := fun ρ' hρ => ⟨hρ.1, hρ.2.1⟩
  have hr := fn_arr_val (hs := [.sl portLk]) (ns := []) (p := []) (rk := 2) (rs0 := leastRules0) (cuts := [leastCA]) (want := leastW) (call := callL) (keep := noKeep 12) (fuel := 80) tabsT tabsT_nd ht mixed (namesD DsLaw.z A len) Tryd.func12 leastA_body rfl h trivial rfl (fsOk_nil.2 trivial) rfl rfl
    (fun ρ' hρ => callG_run mixed okF_ok (sumSpec_ok (sumsL_ok ρ' (by rw [(hf ρ' hρ).1]; rfl) ht)) 30)
    (fun ρ' hρ c hc t htm r hr => by
      obtain rfl : c = leastCA := by simpa using hc
      obtain rfl : t = leastTA := by simpa [leastCA] using htm
      exact leastRules_ok (hf ρ' hρ).1 (hf ρ' hρ).2 r hr)
    (fun c hc t htm => by
      obtain rfl : c = leastCA := by simpa using hc
      obtain rfl : t = leastTA := by simpa [leastCA] using htm
      exact ⟨.leaf, fun g => CT.mk0 (leastA_round g)⟩)
    (leastRules0_ok (hf _ (SameK.refl _)).1) leastA_enter
  refine hr.mono fun e w' ⟨he, hb⟩ => ⟨?_, hb⟩
  rw [he]
  exact congrArg (fun x => Ending.returned (.int .i64 x)) (leastE_ev rfl rfl)
end
end Go.Proofs.YtedeecnibmgobaaDoor
