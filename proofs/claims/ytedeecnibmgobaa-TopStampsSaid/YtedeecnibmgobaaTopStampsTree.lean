/- The law TopStamps: all its ways end with true. -/
import Derived.Test.YtedeecnibmgobaaTsC
namespace Go.Proofs.Ytedeecnibmgobaa
open Go Go.RowKit SX
set_option linter.unusedVariables false

def stmSh : List Sh := [i1, i1]
def pofE (j : Nat) : E := .app 2 j [.var 0]
/-- What is known: of package stamp, and of package ptime (if the instant is late). -/
def spA : Spc := fun f args hp fs => match args with
  | [.int .u64 a, .int .i64 b] => if f = 7 ∧ eqF fs a (appE 0) = true ∧ eqF fs b (zad (.var 0) (.var 1)) = true then some ⟨.tuple [v0, .int .i64 (.lit 0)], hp, fs⟩ else none
  | [.int .i64 a] => if f = 5 ∧ eqF fs a (.var 0) = true then some ⟨.int .u64 (appE 0), hp, fs⟩ else none
  | _ => none
def spB : Spc := fun f args hp fs => match args with
  | [.int .i64 a] => if f = 8 ∧ eqF fs a (.var 0) = true then some ⟨.tuple [.agg [.int .i64 (pofE 0), .int .i64 (pofE 1)], .int .i64 (.lit 0)], hp, fs⟩ else none
  | [.agg [.int .i64 a, .int .i64 b]] => if f = 11 ∧ eqF fs a (pofE 0) = true ∧ eqF fs b (pofE 1) = true then some ⟨.tuple [v0, .int .i64 (.lit 0)], hp, fs⟩ else none
  | _ => none
section
variable {t a : Int} {w w0 : World} {gl : Gl}
theorem spA_ok (ht : -4000000000000000000 ≤ t ∧ t ≤ 4000000000000000000) (ha' : -2000000000000000000 ≤ a ∧ a ≤ 2000000000000000000) : SpecOk Try.prog (envOf F2 [t, a]) w0 (fun _ => False) gl spA := fun f args hp fs o h1 β w1 hh hfs ha hg => by
  unfold spA at h1
  split at h1
  · rename_i x y
    split at h1
    · rename_i hc
      obtain ⟨rfl, cx, cy⟩ := hc
      obtain rfl := Option.some.inj h1
      have ex : x.ev (envOf F2 [t, a]) = ofV t := eqF_spec hfs cx
      have ey : y.ev (envOf F2 [t, a]) = t + a := eqF_spec hfs cy
      refine spec_val (w := w1) hh hfs ⟨wfI (by show _ ≤ t ∧ t ≤ _; omega), (by decide : (Lit.int .i64 0).wf = true), trivial⟩ ?_
      show Calls _ _ #[.int .u64 (x.ev (envOf F2 [t, a])), .int .i64 (y.ev (envOf F2 [t, a]))] _ _
      rw [ex, ey]
      exact time_any ht (by omega)
    · cases h1
  · rename_i x
    split at h1
    · rename_i hc
      obtain ⟨rfl, cx⟩ := hc
      obtain rfl := Option.some.inj h1
      have ex : x.ev (envOf F2 [t, a]) = t := eqF_spec hfs cx
      refine spec_val (w := w1) hh hfs (wfU (of_rng t)) ?_
      show Calls _ _ #[.int .i64 (x.ev (envOf F2 [t, a]))] _ _
      rw [ex]
      exact of_any (by unfold MaxI; omega)
    · cases h1
  · cases h1
theorem spB_ok (ht : Late t) : SpecOk Try.prog (envOf F2 [t, a]) w0 (fun _ => False) gl spB := fun f args hp fs o h1 β w1 hh hfs ha hg => by
  have ht' := ht
  unfold Late at ht'
  unfold spB at h1
  split at h1
  · rename_i x
    split at h1
    · rename_i hc
      obtain ⟨rfl, cx⟩ := hc
      obtain rfl := Option.some.inj h1
      have ex : x.ev (envOf F2 [t, a]) = t := eqF_spec hfs cx
      refine spec_val (w := w1) hh hfs ⟨⟨wfI (by show _ ≤ t / 1000000000 - 2208988800 ∧ t / 1000000000 - 2208988800 ≤ _; omega), wfI (by show _ ≤ t % 1000000000 ∧ t % 1000000000 ≤ _; omega), trivial⟩, (by decide : (Lit.int .i64 0).wf = true), trivial⟩ ?_
      show Calls _ _ #[.int .i64 (x.ev (envOf F2 [t, a]))] _ _
      rw [ex]
      exact pof_any ht
    · cases h1
  · rename_i x y
    split at h1
    · rename_i hc
      obtain ⟨rfl, cx, cy⟩ := hc
      obtain rfl := Option.some.inj h1
      have ex : x.ev (envOf F2 [t, a]) = t / 1000000000 - 2208988800 := eqF_spec hfs cx
      have ey : y.ev (envOf F2 [t, a]) = t % 1000000000 := eqF_spec hfs cy
      refine spec_val (w := w1) hh hfs ⟨wfI (by show _ ≤ t ∧ t ≤ _; omega), (by decide : (Lit.int .i64 0).wf = true), trivial⟩ ?_
      show Calls _ _ #[.agg #[.int .i64 (x.ev (envOf F2 [t, a])), .int .i64 (y.ev (envOf F2 [t, a]))]] _ _
      rw [ex, ey]
      exact ptime_any ht
    · cases h1
  · cases h1
end
noncomputable def stmT (p : Fs) (sp : Spc) : T Out := callG Try.prog [] okF sp noKeep 80 30 3 (varShs stmSh 0) .nil (p ++ varFacts stmSh 0)
def ltF (a b : E) : Fs := [(lt0 a b, true)]
def inF : Fs := [(.bin .zrng .u64 (appE 0) (.lit 0), true)] ++ (bd 0 (-4000000000000000000) 4000000000000000000 ++ bd 1 (-2000000000000000000) 2000000000000000000)
def lateF : Fs := bdE (pofE 0) 0 281474976710655 ++ (bdE (pofE 1) 0 999999999 ++ [(lt0 (.var 0) (.lit 2208988800000000000), false)])
set_option maxRecDepth 1000000 in
theorem stm_1 : (stmT (ltF (.var 0) (.lit (-4000000000000000000))) noSpec).all isTrueF = true := by kernel_rfl
set_option maxRecDepth 1000000 in
theorem stm_2 : (stmT (ltF (.lit 4000000000000000000) (.var 0)) noSpec).all isTrueF = true := by kernel_rfl
set_option maxRecDepth 1000000 in
theorem stm_3 : (stmT (ltF (.var 1) (.lit (-2000000000000000000))) noSpec).all isTrueF = true := by kernel_rfl
set_option maxRecDepth 1000000 in
theorem stm_4 : (stmT (ltF (.lit 2000000000000000000) (.var 1)) noSpec).all isTrueF = true := by kernel_rfl
set_option maxRecDepth 1000000 in
theorem stm_5 : (stmT (inF ++ ltF (.var 0) (.lit 2208988800000000000)) spA).all isTrueF = true := by kernel_rfl
set_option maxRecDepth 1000000 in
theorem stm_6 : (stmT (inF ++ lateF) (orSpec spA spB)).all isTrueF = true := by kernel_rfl
theorem stm_pays (ns : List Int) (hf : shFits stmSh ns) (w : World) : Calls Try.prog 3 (shVals stmSh ns).toArray w fun e w' => e = .returned (.bool true) ∧ Below w.heap.size w w' := by
  obtain ⟨t, ht⟩ : ∃ t, ns.headD 0 = t := ⟨_, rfl⟩
  obtain ⟨a, ha⟩ : ∃ a, (ns.drop 1).headD 0 = a := ⟨_, rfl⟩
  have hv : shVals stmSh ns = shVals stmSh [t, a] := by
    show [Value.int .i64 (ns.headD 0), .int .i64 ((ns.drop 1).headD 0)] = _
    rw [ht, ha]
    rfl
  have hf' : shFits stmSh [t, a] := by
    have : (Lit.int .i64 (ns.headD 0)).wf = true ∧ (Lit.int .i64 ((ns.drop 1).headD 0)).wf = true ∧ True := hf
    rw [ht, ha] at this
    exact this
  rw [hv]
  obtain ⟨e1, e2, e3⟩ := varShs_spec (F := F2) (β := β0) (n := 0) (hs := stmSh) (i := 0) hf'
  rw [List.drop_zero] at e1
  rw [← e1]
  have go : ∀ (sp : Spc) (p : Fs), SpecOk Try.prog (envOf F2 [t, a]) w (fun _ => False) [] sp → FsOk (envOf F2 [t, a]) p → (stmT p sp).all isTrueF = true → Calls Try.prog 3 (SV.evs (envOf F2 [t, a]) β0 (varShs stmSh 0)).toArray w fun e w' => e = .returned (.bool true) ∧ Below w.heap.size w w' := fun sp p hsp hp h => by
    refine ((callG_run (gl := []) (keep := noKeep) (fuel := 80) mixed okF_ok hsp 30 3 (varShs stmSh 0) .nil (p ++ varFacts stmSh 0) β0 w (fun x w' => x = .bool true ∧ Below w.heap.size w w') (heap_nil ..) (fsOk_app hp (varFacts_ok hf')) e2 (fun _ h => by cases h)
      (T.holds_mono (fun o ho β' w' _ _ _ hh hf _ => ⟨isTrueF_spec hf ho β', hh.kept.to_below⟩) (T.all_holds h))).2).mono fun e w' ⟨x, he, hx, hb⟩ => ⟨by rw [he, hx], hb⟩
  have lt : ∀ x y : E, x.ev (envOf F2 [t, a]) < y.ev (envOf F2 [t, a]) → FsOk (envOf F2 [t, a]) (ltF x y) := fun x y h => by
    rw [ltF, fsOk_cons, fsOk_nil, lt0_ev]
    exact ⟨⟨fun _ => rfl, fun _ => h⟩, trivial⟩
  by_cases h1 : t < -4000000000000000000
  · exact go _ _ noSpec_ok (lt (.var 0) (.lit (-4000000000000000000)) h1) stm_1
  by_cases h2 : 4000000000000000000 < t
  · exact go _ _ noSpec_ok (lt (.lit 4000000000000000000) (.var 0) h2) stm_2
  by_cases h3 : a < -2000000000000000000
  · exact go _ _ noSpec_ok (lt (.var 1) (.lit (-2000000000000000000)) h3) stm_3
  by_cases h4 : 2000000000000000000 < a
  · exact go _ _ noSpec_ok (lt (.lit 2000000000000000000) (.var 1) h4) stm_4
  have hin : FsOk (envOf F2 [t, a]) inF := by
    refine fsOk_app ?_ (fsOk_app (bdE_ok (by show _ ≤ t ∧ t ≤ _; omega)) (bdE_ok (by show _ ≤ a ∧ a ≤ _; omega)))
    rw [fsOk_cons, fsOk_nil]
    have hr := of_rng t
    have i1 : IntKind.u64.min = 0 := by decide
    have i2 : IntKind.u64.max = 18446744073709551615 := by decide
    have : (E.bin .zrng .u64 (appE 0) (.lit 0)).ev (envOf F2 [t, a]) = if IntKind.u64.min ≤ ofV t ∧ ofV t ≤ IntKind.u64.max then 1 else 0 := rfl
    rw [this, i1, i2, if_pos hr]
    exact ⟨⟨fun _ => rfl, fun _ => by decide⟩, trivial⟩
  by_cases h5 : t < 2208988800000000000
  · exact go _ _ (spA_ok (by omega) (by omega)) (fsOk_app hin (lt (.var 0) (.lit 2208988800000000000) h5)) stm_5
  · have hl : Late t := by unfold Late; omega
    refine go _ _ (orSpec_ok (spA_ok (by omega) (by omega)) (spB_ok hl)) (fsOk_app hin (fsOk_app (bdE_ok (by show 0 ≤ t / 1000000000 - 2208988800 ∧ t / 1000000000 - 2208988800 ≤ _; omega)) (fsOk_app (bdE_ok (by show 0 ≤ t % 1000000000 ∧ t % 1000000000 ≤ _; omega)) ?_))) stm_6
    rw [fsOk_cons, fsOk_nil, lt0_ev]
    exact ⟨⟨fun h => absurd h h5, fun h => Bool.noConfusion h⟩, trivial⟩
end Go.Proofs.Ytedeecnibmgobaa
