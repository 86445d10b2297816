/- Layer 34: Less as a name, by its contract; what is known in each order of three data sets. -/
import Derived.Test.YtljcmjcfebpkoaaDoorDsF
import Derived.Test.YtljcmjcfebpkoaaDoorDsMore
namespace Go.Proofs.YtljcmjcfebpkoaaDoor
open Go Go.RowKit SX
open DsLaw (I64 U64 lexF lt)
set_option linter.unusedVariables false
/-- The data set at the head of a list of numbers. -/
def dsOf (l : List Int) : DS := ⟨l.headD 0, l.tail.headD 0, l.tail.tail.headD 0, l.tail.tail.tail.headD 0, l.tail.tail.tail.tail.headD 0, l.tail.tail.tail.tail.tail.headD 0, l.tail.tail.tail.tail.tail.tail.headD 0, l.tail.tail.tail.tail.tail.tail.tail.headD 0, l.tail.tail.tail.tail.tail.tail.tail.tail.headD 0, l.tail.tail.tail.tail.tail.tail.tail.tail.tail.headD 0, l.tail.tail.tail.tail.tail.tail.tail.tail.tail.tail.headD 0⟩
def dsV (d : DS) : Value := (.agg #[.int .i64 d.p1, .int .i64 d.cls, .int .i64 d.acc, .int .i64 d.vr, .int .i64 d.p2, .int .u64 d.gm, .int .i64 d.steps, .int .u64 d.snd, .int .i64 d.sp, .int .u64 d.rcv, .int .i64 d.rp])
theorem val_ds (l : List Int) : dsSh.val l = dsV (dsOf l) := rfl
theorem wfI {n : Int} (h : (Lit.int .i64 n).wf = true) : I64 n := by
  have := (wf_iff .i64 n).1 h
  unfold I64
  simpa [IntKind.min, IntKind.max, IntKind.bits, IntKind.signed] using this
theorem wfU {n : Int} (h : (Lit.int .u64 n).wf = true) : U64 n := by
  have := (wf_iff .u64 n).1 h
  unfold U64
  simpa [IntKind.min, IntKind.max, IntKind.bits, IntKind.signed] using this
theorem ok_ds {l : List Int} (h : dsSh.fits l) : DsLaw.Ok (dsOf l) := by
  obtain ⟨h0, h1, h2, h3, h4, h5, h6, h7, h8, h9, h10, _⟩ := h
  exact ⟨wfI h0, wfI h1, wfI h2, wfI h3, wfI h4, wfU h5, wfI h6, wfU h7, wfI h8, wfU h9, wfI h10⟩
theorem fields_tabs {w : World} (h : TabsIn tabs34 w) : Fields w := by
  intro i hi
  have hc : cells34[i]? = some (.int .i64 (DsLaw.F i : Nat)) := by
    match i, hi with
    | 0, _ => rfl | 1, _ => rfl | 2, _ => rfl | 3, _ => rfl | 4, _ => rfl | 5, _ => rfl | 6, _ => rfl | 7, _ => rfl | 8, _ => rfl | 9, _ => rfl | 10, _ => rfl | 11, _ => rfl | 12, _ => rfl | 13, _ => rfl
    | n + 14, h => exact absurd h (by omega)
  exact h _ (List.mem_cons_self ..) i _ hc
def lessA : Sm := ⟨14, 3, [dsSh, dsSh], [.one .bool]⟩
instance (a b : DS) : Decidable (lt a b) := by unfold lt; infer_instance
def lessN (_ : Nat) (ns : List Int) : Int := if lt (dsOf ns) (dsOf (ns.drop 11)) then 1 else 0
def namesL : Nat → Nat → List Int → Int := fun f => if f = 3 then lessN else names34 f
theorem lessA_ok (ρ : Env) (h : ρ.fn = namesL) {w : World} (ht : TabsIn tabs34 w) : SmOk Tryd.prog ρ w (fun _ => False) lessA := fun ns hns => by
  refine ⟨⟨trivial, trivial⟩, fun w' hk => ?_⟩
  have hc := less_any (dsOf ns) (dsOf (ns.drop 11)) (ok_ds hns.1) (ok_ds hns.2.1) w' (fields_tabs (TabsIn.kept ht hk))
  have hv : packV (shVals lessA.rs (fnVals (ρ.fn lessA.name) ns (shSize lessA.rs) 0)) = .bool (decide (lt (dsOf ns) (dsOf (ns.drop 11)))) := by
    rw [h]
    show Value.bool (decide (lessN 0 ns ≠ 0)) = _
    unfold lessN
    split <;> simp_all
  rw [hv]
  exact hc
def sumsL : Sums := sumsA 13 [lessA]
theorem sumsL_ok (ρ : Env) (h : ρ.fn = namesL) (w : World) (ht : TabsIn tabs34 w) : SumsOk Tryd.prog ρ w (fun _ => False) sumsL :=
  sumsA_ok (fun w' hk => awake_sx w' (TabsIn.kept ht hk)) fun s hs => by
    obtain rfl : s = lessA := by simpa using hs
    exact lessA_ok ρ h ht

/-! ### What is known in an order -/
def vars (i : Nat) : List E := [.var i, .var (i + 1), .var (i + 2), .var (i + 3), .var (i + 4), .var (i + 5), .var (i + 6), .var (i + 7), .var (i + 8), .var (i + 9), .var (i + 10)]
def eqV (k : IntKind) (i j : Nat) : E := .bin .eq k (.var i) (.var j)
def bnd (a b : E) : E := .bin .band .i64 a b
def eqDs (i j : Nat) : E := bnd (eqV .i64 i j) (bnd (eqV .i64 (i + 1) (j + 1)) (bnd (eqV .i64 (i + 2) (j + 2)) (bnd (eqV .i64 (i + 3) (j + 3)) (bnd (eqV .i64 (i + 4) (j + 4)) (bnd (eqV .u64 (i + 5) (j + 5)) (bnd (eqV .i64 (i + 6) (j + 6)) (bnd (eqV .u64 (i + 7) (j + 7)) (bnd (eqV .i64 (i + 8) (j + 8)) (bnd (eqV .u64 (i + 9) (j + 9)) (eqV .i64 (i + 10) (j + 10)))))))))))
def lessE (i j : Nat) : E := .app 3 0 (vars i ++ vars j)
def lessF (i j : Nat) (b : Bool) : Fs := [(lessE i j, b), (.bin .eq .i64 (lessE i j) (.lit 0), !b)]
def neF (i j : Nat) : Fs := [(eqDs i j, false), (eqDs j i, false)]
def two (x y : Nat) : Fs := lessF x x false ++ (lessF y y false ++ (lessF x y true ++ (lessF y x false ++ neF x y)))
def three (x y z : Nat) : Fs := two x y ++ (two y z ++ two x z)
def learnAll : Fs → Fs → Fs
  | [], fs => fs
  | (c, b) :: l, fs => match c with
    | .app _ _ _ => (c, b) :: learnAll l fs
    | .bin .eq _ (.app _ _ _) _ => (c, b) :: learnAll l fs
    | _ => learn (learnAll l fs) c b
theorem learnAll_ok {ρ : Env} : ∀ {l fs : Fs}, FsOk ρ l → FsOk ρ fs → FsOk ρ (learnAll l fs)
  | [], fs, _, h => h
  | (c, b) :: l, fs, hl, h => by
    have ih := learnAll_ok (l := l) (fun p hp => hl p (List.mem_cons_of_mem _ hp)) h
    have h1 := hl (c, b) (List.mem_cons_self ..)
    have hc : FsOk ρ ((c, b) :: learnAll l fs) := fun p hp => by
      rcases List.mem_cons.1 hp with rfl | hp
      · exact h1
      · exact ih p hp
    unfold learnAll
    split
    · exact hc
    · exact hc
    · exact learn_ok ih h1
section
variable {ns : List Int}
theorem dsOf_drop (i : Nat) : dsOf (ns.drop i) = ⟨ns.getD i 0, ns.getD (i + 1) 0, ns.getD (i + 2) 0, ns.getD (i + 3) 0, ns.getD (i + 4) 0, ns.getD (i + 5) 0, ns.getD (i + 6) 0, ns.getD (i + 7) 0, ns.getD (i + 8) 0, ns.getD (i + 9) 0, ns.getD (i + 10) 0⟩ := by
  simp only [dsOf, List.tail_drop, headD_drop]
theorem less_ev (i j : Nat) : (lessE i j).ev (envOf namesL ns) = if lt (dsOf (ns.drop i)) (dsOf (ns.drop j)) then 1 else 0 := by
  rw [dsOf_drop, dsOf_drop]
  rfl
theorem eqV_ev (k : IntKind) (i j : Nat) : (eqV k i j).ev (envOf namesL ns) ≠ 0 ↔ ns.getD i 0 = ns.getD j 0 := ev_eq _ k _ _
theorem bnd_ev {ρ : Env} (a b : E) : (bnd a b).ev ρ ≠ 0 ↔ a.ev ρ ≠ 0 ∧ b.ev ρ ≠ 0 := by
  show (if a.ev ρ ≠ 0 ∧ b.ev ρ ≠ 0 then (1 : Int) else 0) ≠ 0 ↔ _
  split <;> simp_all
theorem eqDs_ev (i j : Nat) : (eqDs i j).ev (envOf namesL ns) ≠ 0 ↔ dsOf (ns.drop i) = dsOf (ns.drop j) := by
  rw [dsOf_drop, dsOf_drop]
  unfold eqDs
  simp only [bnd_ev, eqV_ev, DS.mk.injEq]
theorem lessF_ok {i j : Nat} {b : Bool} (h : lt (dsOf (ns.drop i)) (dsOf (ns.drop j)) ↔ b = true) : FsOk (envOf namesL ns) (lessF i j b) := fun p hp => by
  simp only [lessF, List.mem_cons, List.not_mem_nil, or_false] at hp
  have hl := less_ev (ns := ns) i j
  rcases hp with rfl | rfl
  · show (lessE i j).ev _ ≠ 0 ↔ _
    rw [hl, ← h]
    split <;> simp_all
  · refine (ev_eq _ .i64 _ _).trans ?_
    rw [hl]
    show _ = (0 : Int) ↔ (!b) = true
    cases b <;> split <;> simp_all
theorem neF_ok {i j : Nat} (h : dsOf (ns.drop i) ≠ dsOf (ns.drop j)) : FsOk (envOf namesL ns) (neF i j) := fun p hp => by
  simp only [neF, List.mem_cons, List.not_mem_nil, or_false] at hp
  rcases hp with rfl | rfl
  · exact (eqDs_ev i j).trans (iff_of_false h Bool.false_ne_true)
  · exact (eqDs_ev j i).trans (iff_of_false (fun e => h e.symm) Bool.false_ne_true)
theorem two_ok {i j : Nat} (h : lt (dsOf (ns.drop i)) (dsOf (ns.drop j))) : FsOk (envOf namesL ns) (two i j) :=
  fsOk_app (lessF_ok (iff_of_false (DsLaw.lt_irrefl _) Bool.false_ne_true)) (fsOk_app (lessF_ok (iff_of_false (DsLaw.lt_irrefl _) Bool.false_ne_true)) (fsOk_app (lessF_ok (iff_of_true h rfl)) (fsOk_app (lessF_ok (iff_of_false (DsLaw.lt_asymm h) Bool.false_ne_true)) (neF_ok fun e => DsLaw.lt_irrefl _ (e ▸ h)))))
theorem three_ok {i j k : Nat} (h : lt (dsOf (ns.drop i)) (dsOf (ns.drop j))) (h' : lt (dsOf (ns.drop j)) (dsOf (ns.drop k))) : FsOk (envOf namesL ns) (three i j k) :=
  fsOk_app (two_ok h) (fsOk_app (two_ok h') (two_ok (DsLaw.lt_trans h h')))
end
def totSh : List Sh := [dsSh, dsSh, dsSh]
def at3 (i j k : Nat) : List SV := [varSh dsSh i, varSh dsSh j, varSh dsSh k]
noncomputable def totT (i j k : Nat) (ff : Fs) : T Out := callF Tryd.prog (tabGl tabs34 0) okF sumsL noKeep 80 30 7 (at3 i j k) (tabHp tabs34) (learnAll ff (varFacts totSh 0))
end Go.Proofs.YtljcmjcfebpkoaaDoor
