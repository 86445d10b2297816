/- What the laws of layer 33 share: the examples, the sizes of messages. -/
import Derived.Test.YtocllfanlijmlaaOk33
namespace Go.Proofs.Ytocllfanlijmlaa
open Go Go.RowKit SX
set_option linter.unusedVariables false

def noKeep : FuncId → Nat → List Nat := fun _ _ => []
theorem own : ownKnob Try.prog.godebug = none := by kernel_rfl
theorem laidOut : laidOutB Try.prog = true := by kernel_rfl
set_option maxRecDepth 1000000 in
theorem awake_tree : ((callF Try.prog (tabGl [] 0) okF (fun _ _ => none) noKeep 80 30 13 [] (tabHp []) []).all isTrueF) = true := by kernel_rfl
set_option maxRecDepth 1000000 in
theorem awake_sx (w : World) : Calls Try.prog 13 #[] w fun e w' => e = .returned (.bool true) ∧ Below w.heap.size w w' :=
  pays_facts (ρ := envOf (fun _ _ _ => 0) []) (args := []) (fs0 := []) [] (by decide) (tabs_nil w) mixed okF_ok (fun _ h => by cases h) (sums_none _ _ _ _) trivial rfl (T.all_holds awake_tree)

/-! ### The sizes of messages -/
def sizeF (k : Int) : Int := if k = 0 then 44 else if k = 1 then 44 else if k = 2 then 54 else if k = 3 then 54 else if k = 8 then 44 else if k = 9 then 54 else if k = 10 then 54 else if k = 11 then 64 else 0
def i1 : Sh := .one (.int .i64)
def u1 : Sh := .one (.int .u64)
def sizeA : Sm := ⟨11, 1, [i1], [i1]⟩
def sizeB : Sm := ⟨12, 1, [i1], [i1]⟩
def names33 : Nat → Nat → List Int → Int := fun f j ns => if f = 1 then sizeF (ns.getD 0 0) else 0
theorem sizeF_fits (k : Int) : (Lit.int .i64 (sizeF k)).wf = true := by
  unfold sizeF
  repeat' split
  all_goals decide
def retI (t : T Out) : T SV := t.map fun o => o.v
def cI (x : Int) : T SV := .ok (.int .i64 (.lit x))
def isK (x : Int) (t e : T SV) : T SV := .br (.bin .eq .i64 (.var 0) (.lit x)) t e
theorem sizeA_tree : retI (callF Try.prog (tabGl [] 0) okF (fun _ _ => none) noKeep 50 20 11 (varShs [i1] 0) (tabHp []) []) =
    isK 0 (cI 44) (isK 1 (cI 44) (isK 2 (cI 54) (isK 3 (cI 54) (isK 8 (cI 44) (isK 9 (cI 54) (isK 10 (cI 54) (isK 11 (cI 64) (cI 0)))))))) := by kernel_rfl
theorem sizeB_tree : retI (callF Try.prog (tabGl [] 0) okF (fun _ _ => none) noKeep 50 20 12 (varShs [i1] 0) (tabHp []) []) =
    isK 0 (cI 44) (isK 1 (cI 44) (isK 8 (cI 44) (isK 2 (cI 54) (isK 3 (cI 54) (isK 9 (cI 54) (isK 10 (cI 54) (isK 11 (cI 64) (cI 0)))))))) := by kernel_rfl
theorem isK_holds {ρ : Env} {x : Int} {t e : T SV} {Q : SV → Prop} : (isK x t e).holds ρ Q ↔ (ρ.v 0 = x → t.holds ρ Q) ∧ (ρ.v 0 ≠ x → e.holds ρ Q) := by
  unfold isK
  simp only [T.holds]
  have h := ev_eq ρ .i64 (.var 0) (.lit x)
  have h' : (E.bin .eq .i64 (.var 0) (.lit x)).ev ρ = 0 ↔ ρ.v 0 ≠ x := by
    rw [← Decidable.not_iff_not]
    exact h.trans (by show ρ.v 0 = x ↔ _; simp)
  rw [h, h']
  exact Iff.rfl
theorem sizeA_ok (v : List Int) (w : World) : SmOk Try.prog (envOf names33 v) w (fun _ => False) sizeA :=
  smOk_of (sums := fun _ _ => none) (okF := okF) (keep := noKeep) (fuel := 50) (n := 20) [] (by decide) (fun w _ => tabs_nil w) mixed okF_ok (fun _ _ _ => sums_none _ _ _ _) v fun ns hns => by
    refine ⟨⟨sizeF_fits _, trivial⟩, ?_⟩
    have key : (retI (callF Try.prog (tabGl [] 0) okF (fun _ _ => none) noKeep 50 20 11 (varShs [i1] 0) (tabHp []) [])).holds (envOf names33 ns) fun s => s.flat = true ∧ s.ev (envOf names33 ns) β0 = packV (shVals [i1] (fnVals (names33 1) ns (shSize [i1]) 0)) := by
      rw [sizeA_tree]
      have hv : ∀ x : Int, sizeF (ns.getD 0 0) = x → (cI x).holds (envOf names33 ns) fun s => s.flat = true ∧ s.ev (envOf names33 ns) β0 = packV (shVals [i1] (fnVals (names33 1) ns (shSize [i1]) 0)) := fun x hx => by
        refine ⟨rfl, ?_⟩
        subst hx
        rfl
      have e0 : (envOf names33 ns).v 0 = ns.getD 0 0 := rfl
      simp only [isK_holds, e0]
      generalize ns.getD 0 0 = k at *
      refine ⟨fun h => hv _ (by simp [sizeF, h]), fun h0 => ⟨fun h => hv _ (by simp [sizeF, h]), fun h1 => ⟨fun h => hv _ (by simp [sizeF, h]), fun h2 => ⟨fun h => hv _ (by simp [sizeF, h]), fun h3 => ⟨fun h => hv _ (by simp [sizeF, h]), fun h4 => ⟨fun h => hv _ (by simp [sizeF, h]), fun h5 => ⟨fun h => hv _ (by simp [sizeF, h]), fun h6 => ⟨fun h => hv _ (by simp [sizeF, h]), fun h7 => hv _ (by simp [sizeF, h0, h1, h2, h3, h4, h5, h6, h7])⟩⟩⟩⟩⟩⟩⟩⟩
    exact T.holds_map.1 key
theorem sizeB_ok (v : List Int) (w : World) : SmOk Try.prog (envOf names33 v) w (fun _ => False) sizeB :=
  smOk_of (sums := fun _ _ => none) (okF := okF) (keep := noKeep) (fuel := 50) (n := 20) [] (by decide) (fun w _ => tabs_nil w) mixed okF_ok (fun _ _ _ => sums_none _ _ _ _) v fun ns hns => by
    refine ⟨⟨sizeF_fits _, trivial⟩, ?_⟩
    have key : (retI (callF Try.prog (tabGl [] 0) okF (fun _ _ => none) noKeep 50 20 12 (varShs [i1] 0) (tabHp []) [])).holds (envOf names33 ns) fun s => s.flat = true ∧ s.ev (envOf names33 ns) β0 = packV (shVals [i1] (fnVals (names33 1) ns (shSize [i1]) 0)) := by
      rw [sizeB_tree]
      have hv : ∀ x : Int, sizeF (ns.getD 0 0) = x → (cI x).holds (envOf names33 ns) fun s => s.flat = true ∧ s.ev (envOf names33 ns) β0 = packV (shVals [i1] (fnVals (names33 1) ns (shSize [i1]) 0)) := fun x hx => by
        refine ⟨rfl, ?_⟩
        subst hx
        rfl
      have e0 : (envOf names33 ns).v 0 = ns.getD 0 0 := rfl
      simp only [isK_holds, e0]
      generalize ns.getD 0 0 = k at *
      refine ⟨fun h => hv _ (by simp [sizeF, h]), fun h0 => ⟨fun h => hv _ (by simp [sizeF, h]), fun h1 => ⟨fun h => hv _ (by simp [sizeF, h]), fun h2 => ⟨fun h => hv _ (by simp [sizeF, h]), fun h3 => ⟨fun h => hv _ (by simp [sizeF, h]), fun h4 => ⟨fun h => hv _ (by simp [sizeF, h]), fun h5 => ⟨fun h => hv _ (by simp [sizeF, h]), fun h6 => ⟨fun h => hv _ (by simp [sizeF, h]), fun h7 => hv _ (by simp [sizeF, h0, h1, h2, h3, h4, h5, h6, h7])⟩⟩⟩⟩⟩⟩⟩⟩
    exact T.holds_map.1 key

def ptSh : Sh := .agg [.int .i64, .int .i64, .int .i64, .int .i64, .int .u64, .int .i64, .int .i64, .int .i64, .int .i64, .int .i64, .int .u64, .int .i64, .int .i64, .int .i64, .int .i64, .int .i64, .int .i64, .int .i64, .int .u64, .int .i64, .int .i64]
def sums33 : Sums := sumsA 13 [sizeA, sizeB]
set_option maxRecDepth 1000000 in
theorem sums33_ok (v : List Int) (w : World) : SumsOk Try.prog (envOf names33 v) w (fun _ => False) sums33 :=
  sumsA_ok (fun w' hk => awake_sx w') fun s hs => by
    simp only [List.mem_cons, List.not_mem_nil, or_false] at hs
    rcases hs with rfl | rfl
    · exact sizeA_ok v w
    · exact sizeB_ok v w
end Go.Proofs.Ytocllfanlijmlaa
