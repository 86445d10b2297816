/- Layer 38: Size and Check of the program and of the reference have one name each. -/
import Derived.Test.YtkjbekloacihaaaE3
import Derived.Test.YtkjbekloacihaaaSxL
namespace Go.Proofs.Ytkjbekloacihaaa
open Go Go.RowKit SX
set_option linter.unusedVariables false
/-! ### The sizes of messages -/
def sizeF (k : Int) : Int := if k = 0 then 44 else if k = 1 then 44 else if k = 2 then 54 else if k = 3 then 54 else if k = 8 then 44 else if k = 9 then 54 else if k = 10 then 54 else if k = 11 then 64 else 0
def sizeA : Sm := ⟨63, 1, [i1], [i1]⟩
def sizeB : Sm := ⟨55, 1, [i1], [i1]⟩
def namesZ : Nat → Nat → List Int → Int := fun f j ns => if f = 1 then sizeF (ns.getD 0 0) else 0
theorem sizeF_fits (k : Int) : (Lit.int .i64 (sizeF k)).wf = true := by
  unfold sizeF
  repeat' split
  all_goals decide
def retI (t : T Out) : T SV := t.map fun o => o.v
def cI (x : Int) : T SV := .ok (.int .i64 (.lit x))
def isK (x : Int) (t e : T SV) : T SV := .br (.bin .eq .i64 (.var 0) (.lit x)) t e
theorem sizeA_tree : retI (callF Try.prog (tabGl [] 0) okF (fun _ _ => none) noKeep 50 20 63 (varShs [i1] 0) (tabHp []) []) =
    isK 0 (cI 44) (isK 1 (cI 44) (isK 2 (cI 54) (isK 3 (cI 54) (isK 8 (cI 44) (isK 9 (cI 54) (isK 10 (cI 54) (isK 11 (cI 64) (cI 0)))))))) := by kernel_rfl
theorem sizeB_tree : retI (callF Try.prog (tabGl [] 0) okF (fun _ _ => none) noKeep 50 20 55 (varShs [i1] 0) (tabHp []) []) =
    isK 0 (cI 44) (isK 1 (cI 44) (isK 8 (cI 44) (isK 2 (cI 54) (isK 3 (cI 54) (isK 9 (cI 54) (isK 10 (cI 54) (isK 11 (cI 64) (cI 0)))))))) := by kernel_rfl
theorem isK_holds {ρ : Env} {x : Int} {t e : T SV} {Q : SV → Prop} : (isK x t e).holds ρ Q ↔ (ρ.v 0 = x → t.holds ρ Q) ∧ (ρ.v 0 ≠ x → e.holds ρ Q) := by
  unfold isK
  simp only [T.holds]
  have h := ev_eq ρ .i64 (.var 0) (.lit x)
  have h' : (E.bin .eq .i64 (.var 0) (.lit x)).ev ρ = 0 ↔ ρ.v 0 ≠ x := by
    rw [← Decidable.not_iff_not]
    exact h.trans (by show ρ.v 0 = x ↔ _; simp)
  rw [h, h']
  exact Iff.rfl
theorem sizeA_ok (v : List Int) (w : World) : SmOk Try.prog (envOf namesZ v) w (fun _ => False) sizeA :=
  smOk_of (sums := fun _ _ => none) (okF := okF) (keep := noKeep) (fuel := 50) (n := 20) [] (by decide) (fun w _ => tabs_nil w) mixed okF_ok (fun _ _ _ => sums_none _ _ _ _) v fun ns hns => by
    refine ⟨⟨sizeF_fits _, trivial⟩, ?_⟩
    have key : (retI (callF Try.prog (tabGl [] 0) okF (fun _ _ => none) noKeep 50 20 63 (varShs [i1] 0) (tabHp []) [])).holds (envOf namesZ ns) fun s => s.flat = true ∧ s.ev (envOf namesZ ns) β0 = packV (shVals [i1] (fnVals (namesZ 1) ns (shSize [i1]) 0)) := by
      rw [sizeA_tree]
      have hv : ∀ x : Int, sizeF (ns.getD 0 0) = x → (cI x).holds (envOf namesZ ns) fun s => s.flat = true ∧ s.ev (envOf namesZ ns) β0 = packV (shVals [i1] (fnVals (namesZ 1) ns (shSize [i1]) 0)) := fun x hx => by
        refine ⟨rfl, ?_⟩
        subst hx
        rfl
      have e0 : (envOf namesZ ns).v 0 = ns.getD 0 0 := rfl
      simp only [isK_holds, e0]
      generalize ns.getD 0 0 = k at *
      refine ⟨fun h => hv _ (by simp [sizeF, h]), fun h0 => ⟨fun h => hv _ (by simp [sizeF, h]), fun h1 => ⟨fun h => hv _ (by simp [sizeF, h]), fun h2 => ⟨fun h => hv _ (by simp [sizeF, h]), fun h3 => ⟨fun h => hv _ (by simp [sizeF, h]), fun h4 => ⟨fun h => hv _ (by simp [sizeF, h]), fun h5 => ⟨fun h => hv _ (by simp [sizeF, h]), fun h6 => ⟨fun h => hv _ (by simp [sizeF, h]), fun h7 => hv _ (by simp [sizeF, h0, h1, h2, h3, h4, h5, h6, h7])⟩⟩⟩⟩⟩⟩⟩⟩
    exact T.holds_map.1 key
theorem sizeB_ok (v : List Int) (w : World) : SmOk Try.prog (envOf namesZ v) w (fun _ => False) sizeB :=
  smOk_of (sums := fun _ _ => none) (okF := okF) (keep := noKeep) (fuel := 50) (n := 20) [] (by decide) (fun w _ => tabs_nil w) mixed okF_ok (fun _ _ _ => sums_none _ _ _ _) v fun ns hns => by
    refine ⟨⟨sizeF_fits _, trivial⟩, ?_⟩
    have key : (retI (callF Try.prog (tabGl [] 0) okF (fun _ _ => none) noKeep 50 20 55 (varShs [i1] 0) (tabHp []) [])).holds (envOf namesZ ns) fun s => s.flat = true ∧ s.ev (envOf namesZ ns) β0 = packV (shVals [i1] (fnVals (namesZ 1) ns (shSize [i1]) 0)) := by
      rw [sizeB_tree]
      have hv : ∀ x : Int, sizeF (ns.getD 0 0) = x → (cI x).holds (envOf namesZ ns) fun s => s.flat = true ∧ s.ev (envOf namesZ ns) β0 = packV (shVals [i1] (fnVals (namesZ 1) ns (shSize [i1]) 0)) := fun x hx => by
        refine ⟨rfl, ?_⟩
        subst hx
        rfl
      have e0 : (envOf namesZ ns).v 0 = ns.getD 0 0 := rfl
      simp only [isK_holds, e0]
      generalize ns.getD 0 0 = k at *
      refine ⟨fun h => hv _ (by simp [sizeF, h]), fun h0 => ⟨fun h => hv _ (by simp [sizeF, h]), fun h1 => ⟨fun h => hv _ (by simp [sizeF, h]), fun h2 => ⟨fun h => hv _ (by simp [sizeF, h]), fun h3 => ⟨fun h => hv _ (by simp [sizeF, h]), fun h4 => ⟨fun h => hv _ (by simp [sizeF, h]), fun h5 => ⟨fun h => hv _ (by simp [sizeF, h]), fun h6 => ⟨fun h => hv _ (by simp [sizeF, h]), fun h7 => hv _ (by simp [sizeF, h0, h1, h2, h3, h4, h5, h6, h7])⟩⟩⟩⟩⟩⟩⟩⟩
    exact T.holds_map.1 key


def ptSh : Sh := .agg [.int .i64, .int .i64, .int .i64, .int .i64, .int .u64, .int .i64, .int .i64, .int .i64, .int .i64, .int .i64, .int .u64, .int .i64, .int .i64, .int .i64, .int .i64, .int .i64, .int .i64, .int .i64, .int .u64, .int .i64, .int .i64]
def sumsZ : Sums := sumsOf [sizeA, sizeB]
theorem sumsZ_okB (ρ : Env) (h : ρ.fn 1 = namesZ 1) (w : World) : SumsOk Try.prog ρ w (fun _ => False) sumsZ :=
  sumsOf_ok fun s hs => by
    simp only [List.mem_cons, List.not_mem_nil, or_false] at hs
    rcases hs with rfl | rfl
    · exact SmOk.congr (ρ := envOf namesZ []) (show ρ.fn 1 = (envOf namesZ []).fn 1 from h) (sizeA_ok [] w)
    · exact SmOk.congr (ρ := envOf namesZ []) (show ρ.fn 1 = (envOf namesZ []).fn 1 from h) (sizeB_ok [] w)
def kA : Sm := ⟨53, 2, [ptSh], [i1]⟩
def kB : Sm := ⟨48, 2, [ptSh], [i1]⟩
noncomputable def chkT : T Out := callF Try.prog [] okF sumsZ noKeep 80 30 53 (varShs [ptSh] 0) .nil (varFacts [ptSh] 0)
noncomputable def namesK : Nat → Nat → List Int → Int := fun f => if f = 2 then autoF namesZ [i1] chkT else namesZ f
theorem but2 : But 2 namesK namesZ := fun f hf => if_neg hf
set_option maxRecDepth 1000000 in
theorem chk_good : chkT.good 2 [i1] = true := by kernel_rfl
set_option maxRecDepth 1000000 in
theorem chk_both : ((both2 Try.prog okF sumsZ noKeep 80 30 53 48 [ptSh]).all fun p => sameO [i1] p.1 p.2) = true := by kernel_rfl
theorem kA_ok (ρ : Env) (h : ρ.fn = namesK) (w : World) : SmOk Try.prog ρ w (fun _ => False) kA :=
  smAuto (okF := okF) (sums := sumsZ) (keep := noKeep) (fuel := 80) (n := 30) (G := namesZ) mixed okF_ok but2 (fun ns w' _ => sumsZ_okB _ rfl w') h (fun ns j => congrFun (congrFun (if_pos rfl : namesK 2 = autoF namesZ [i1] chkT) j) ns) chk_good
theorem kB_ok (ρ : Env) (h : ρ.fn = namesK) (w : World) : SmOk Try.prog ρ w (fun _ => False) kB :=
  smAuto2 (s := kA) (okF := okF) (sums := sumsZ) (keep := noKeep) (fuel := 80) (n := 30) (G := namesZ) mixed okF_ok but2 (fun ns w' _ => sumsZ_okB _ rfl w') h (fun ns j => congrFun (congrFun (if_pos rfl : namesK 2 = autoF namesZ [i1] chkT) j) ns) chk_good chk_both
end Go.Proofs.Ytkjbekloacihaaa
