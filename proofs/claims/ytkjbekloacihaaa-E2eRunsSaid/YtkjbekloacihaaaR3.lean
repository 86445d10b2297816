/- Layer 38: the names of instant, Check and AddCorr, of the program and of the references. -/
import Derived.Test.YtkjbekloacihaaaR2
namespace Go.Proofs.Ytkjbekloacihaaa
open Go Go.RowKit SX
set_option linter.unusedVariables false
theorem smOk_at {P : Program} {F : Nat → Nat → List Int → Int} {w0 : World} {M : Nat → Prop} {s : Sm} {okF : FuncId → Bool} {sums : Sums} {keep : FuncId → Nat → List Nat} {fuel n : Nat} (hm : P.follows .mixedOrders = true) (hok : ∀ f, okF f = true → ∀ xs w, (callFunc f xs).run P w = .ok (.enter f xs) w)
    (hsum : ∀ (ns : List Int) (w : World), Kept w0 M w → SumsOk P (envOf F ns) w (fun _ => False) sums) (v : List Int)
    (h : ∀ ns : List Int, shFits s.ps ns → shFits s.rs (fnVals (F s.name) ns (shSize s.rs) 0) ∧
      (retI (callF P [] okF sums keep fuel n s.f (varShs s.ps 0) .nil (varFacts s.ps 0))).holds (envOf F ns) fun x => x.flat = true ∧ x.ev (envOf F ns) β0 = packV (shVals s.rs (fnVals (F s.name) ns (shSize s.rs) 0))) :
    SmOk P (envOf F v) w0 M s := fun ns hns => by
  obtain ⟨h1, h2⟩ := h ns hns
  refine ⟨h1, fun w hw => ?_⟩
  obtain ⟨e1, e2, e3⟩ := varShs_spec (F := F) (β := β0) (n := 0) (hs := s.ps) (i := 0) hns
  rw [List.drop_zero] at e1
  have hr := (callF_run (gl := []) (keep := keep) (fuel := fuel) hm hok (hsum ns w hw) n s.f (varShs s.ps 0) .nil (varFacts s.ps 0) β0 w (fun x w' => x = packV (shVals s.rs (fnVals (F s.name) ns (shSize s.rs) 0)) ∧ Below w.heap.size w w') (heap_nil ..)
    (varFacts_ok (by rwa [List.drop_zero])) e2 (fun _ h => by cases h)
    (T.holds_mono (fun o ho β' w' _ _ _ hh hf hv => ⟨by rw [SV.ev_flat β' β0 _ ho.1]; exact ho.2, hh.kept.to_below⟩) (T.holds_map.1 h2))).2
  rw [e1] at hr
  exact hr.mono fun e w' ⟨x, he, hx, hb⟩ => ⟨by rw [he, hx]; rfl, hb⟩

def insA3 : Sm := ⟨37, 3, [stSh], insRs⟩
def insB3 : Sm := ⟨31, 3, [stSh], insRs⟩
def adA4 : Sm := ⟨26, 4, [i1, i1], insRs⟩
def adB4 : Sm := ⟨34, 4, [i1, i1], insRs⟩
/-- The sum, or the nearest number; whether it is the sum. -/
def addV (a b : Int) : Int := if 9223372036854775807 < a + b then 9223372036854775807 else if a + b < -9223372036854775808 then -9223372036854775808 else a + b
def addF (j : Nat) (ns : List Int) : Int := if j = 0 then addV (ns.getD 0 0) (ns.getD 1 0) else if -9223372036854775808 ≤ ns.getD 0 0 + ns.getD 1 0 ∧ ns.getD 0 0 + ns.getD 1 0 ≤ 9223372036854775807 then 1 else 0
noncomputable def namesR : Nat → Nat → List Int → Int := fun f => if f = 3 then insF else if f = 4 then addF else namesK f
theorem ret_two {ρ : Env} {e : E} {b v : Int} {f : Nat → List Int → Int} {ns : List Int} (h0 : e.ev ρ = f 0 ns) (h1 : (v ≠ 0) ↔ f 1 ns ≠ 0) :
    (SV.tuple [.int .i64 e, .bool (.lit v)]).flat = true ∧ (SV.tuple [.int .i64 e, .bool (.lit v)]).ev ρ β0 = packV (shVals insRs (fnVals f ns (shSize insRs) 0)) := by
  refine ⟨rfl, ?_⟩
  show Value.tuple #[.int .i64 (e.ev ρ), .bool (decide (v ≠ 0))] = Value.tuple #[.int .i64 (f 0 ns), .bool (decide (f 1 ns ≠ 0))]
  rw [h0, show decide (v ≠ 0) = decide (f 1 ns ≠ 0) from decide_eq_decide.2 h1]
theorem wf64 {x : Int} (h : -9223372036854775808 ≤ x ∧ x ≤ 9223372036854775807) : (Lit.int .i64 x).wf = true := (wf_iff .i64 x).2 ⟨by simpa [IntKind.min, IntKind.bits, IntKind.signed] using h.1, by simpa [IntKind.max, IntKind.bits, IntKind.signed] using h.2⟩
theorem wf64' {x : Int} (h : (Lit.int .i64 x).wf = true) : -9223372036854775808 ≤ x ∧ x ≤ 9223372036854775807 := by
  have := (wf_iff .i64 x).1 h
  exact ⟨by simpa [IntKind.min, IntKind.bits, IntKind.signed] using this.1, by simpa [IntKind.max, IntKind.bits, IntKind.signed] using this.2⟩
theorem ins_fits (ns : List Int) : shFits insRs (fnVals insF ns (shSize insRs) 0) := by
  refine ⟨?_, trivial, trivial⟩
  show (Lit.int .i64 (insF 0 ns)).wf = true
  apply wf64
  unfold insF
  split
  · rename_i h
    obtain ⟨_, _, _, _, _, h1, h2⟩ := h
    rw [if_pos rfl]
    omega
  · omega
theorem add_fits (ns : List Int) : shFits insRs (fnVals addF ns (shSize insRs) 0) := by
  refine ⟨?_, trivial, trivial⟩
  show (Lit.int .i64 (addF 0 ns)).wf = true
  apply wf64
  unfold addF addV
  rw [if_pos rfl]
  split
  · omega
  · split <;> omega
section
variable {F : Nat → Nat → List Int → Int} {ns : List Int}
theorem ins_no (h : ¬ stOk (ns.getD 0 0) (ns.getD 1 0)) : noT.holds (envOf F ns) fun x => x.flat = true ∧ x.ev (envOf F ns) β0 = packV (shVals insRs (fnVals insF ns (shSize insRs) 0)) :=
  ret_two (b := 0) (by show (0 : Int) = _; unfold insF; rw [if_neg h]) (by unfold insF; rw [if_neg h])
theorem ins_yes {e : E} (h : stOk (ns.getD 0 0) (ns.getD 1 0)) (he : e.ev (envOf F ns) = stT (ns.getD 0 0) (ns.getD 1 0) - 3900000000000000000) : (yesT e).holds (envOf F ns) fun x => x.flat = true ∧ x.ev (envOf F ns) β0 = packV (shVals insRs (fnVals insF ns (shSize insRs) 0)) :=
  ret_two (b := 0) (by rw [he]; unfold insF; rw [if_pos h, if_pos rfl]) (by unfold insF; rw [if_pos h, if_neg (by decide)])
set_option maxHeartbeats 1000000 in
theorem insA_holds (hns : shFits [stSh] ns) : insTreeA.holds (envOf F ns) fun x => x.flat = true ∧ x.ev (envOf F ns) β0 = packV (shVals insRs (fnVals insF ns (shSize insRs) 0)) := by
  have v0 : (E.var 0).ev (envOf F ns) = ns.getD 0 0 := rfl
  have v1 : (E.var 1).ev (envOf F ns) = ns.getD 1 0 := rfl
  have hno := @ins_no F ns
  have hyes := @ins_yes F ns
  have hX : ∀ (h1 : 0 ≤ ns.getD 0 0) (h2 : ns.getD 0 0 < 281474976710656), eX.ev (envOf F ns) = ns.getD 0 0 + 2208988800 := fun h1 h2 => eX_ev rfl h1 h2
  unfold stOk stT at *
  generalize ns.getD 0 0 = s at *
  generalize ns.getD 1 0 = n at *
  unfold insTreeA vlt
  simp only [br_lt, br_eq, v0, v1]
  simp only [E.ev]
  refine ⟨fun h => hno (by omega), fun a1 => ⟨fun h => hno (by omega), fun a2 => ⟨fun h => hno (by omega), fun a3 => ⟨fun a4 => ?_, fun h => hno (by omega)⟩⟩⟩⟩
  have hx := hX (by omega) (by omega)
  have hHi := eHi_ev hx (by omega) (by omega)
  have hLo := eLo_ev hx
  have hT : eT.ev (envOf F ns) = IntKind.i64.wrap (IntKind.i64.wrap (eLo.ev (envOf F ns)) + n) := by show IntKind.i64.wrap (IntKind.i64.wrap (eLo.ev (envOf F ns)) + (E.var 1).ev (envOf F ns)) = _; rw [v1]
  have hO : eOut.ev (envOf F ns) = IntKind.i64.wrap (eT.ev (envOf F ns) - 3900000000000000000) := rfl
  have hC : BOp.ev .conv .i64 (eLo.ev (envOf F ns)) 0 = IntKind.i64.wrap (eLo.ev (envOf F ns)) := rfl
  have hlt : ∀ a b : Int, BOp.ev .lt .i64 a b = if a < b then 1 else 0 := fun _ _ => rfl
  simp only [hC, hlt]
  rw [hHi]
  refine ⟨fun b1 => ?_, fun b1 => hno (by omega)⟩
  have hL2 : eLo.ev (envOf F ns) = (s + 2208988800) * 1000000000 := by rw [hLo]; omega
  rw [hL2] at hT ⊢
  refine ⟨fun b2 => hno (by omega), fun b2 => ?_⟩
  rw [i64w (x := (s + 2208988800) * 1000000000) (by omega)] at hT ⊢
  have hW := i64_wrap ((s + 2208988800) * 1000000000 + n)
  rw [hT, hW] at hO
  rw [hT, hW]
  rw [if_neg (show ¬ (s + 2208988800) * 1000000000 < 0 by omega)]
  refine ⟨fun b3 => ?_, fun b3 => hno ?_⟩
  · have b3' : ¬ ((s + 2208988800) * 1000000000 + n + 9223372036854775808) % 18446744073709551616 - 9223372036854775808 < 0 := by
      intro hc; rw [if_pos hc] at b3; omega
    have hT3 : ((s + 2208988800) * 1000000000 + n + 9223372036854775808) % 18446744073709551616 - 9223372036854775808 = (s + 2208988800) * 1000000000 + n := by omega
    rw [hT3] at hO ⊢
    rw [i64w (by omega)] at hO
    rw [hO]
    exact ⟨fun h => hno (by omega), fun c1 => ⟨fun h => hno (by omega), fun c2 => ⟨fun h => hno (by omega), fun c3 => hyes (by omega) hO⟩⟩⟩
  · intro hk
    apply b3
    rw [if_neg (by omega)]
set_option maxHeartbeats 1000000 in
theorem insB_holds (hns : shFits [stSh] ns) : insTreeB.holds (envOf F ns) fun x => x.flat = true ∧ x.ev (envOf F ns) β0 = packV (shVals insRs (fnVals insF ns (shSize insRs) 0)) := by
  have v0 : (E.var 0).ev (envOf F ns) = ns.getD 0 0 := rfl
  have v1 : (E.var 1).ev (envOf F ns) = ns.getD 1 0 := rfl
  have hno := @ins_no F ns
  have hyes := @ins_yes F ns
  have hX : ∀ (h1 : 0 ≤ ns.getD 0 0) (h2 : ns.getD 0 0 < 281474976710656), eX.ev (envOf F ns) = ns.getD 0 0 + 2208988800 := fun h1 h2 => eX_ev rfl h1 h2
  unfold stOk stT at *
  generalize ns.getD 0 0 = s at *
  generalize ns.getD 1 0 = n at *
  unfold insTreeB vlt
  simp only [br_lt, v0, v1]
  simp only [E.ev]
  refine ⟨fun h => hno (by omega), fun a1 => ⟨fun a2 => ⟨fun h => hno (by omega), fun a3 => ⟨fun a4 => ?_, fun h => hno (by omega)⟩⟩, fun h => hno (by omega)⟩⟩
  have hx := hX (by omega) (by omega)
  have hHi := rHi_ev hx (by omega) (by omega)
  have hLo := rLo_ev hx (by omega) (by omega)
  have hR : rT.ev (envOf F ns) = IntKind.i64.wrap (rLo.ev (envOf F ns)) := rfl
  have hO : rOut.ev (envOf F ns) = IntKind.i64.wrap (IntKind.i64.wrap (rT.ev (envOf F ns) + n) - 3900000000000000000) := by show IntKind.i64.wrap (IntKind.i64.wrap (rT.ev (envOf F ns) + (E.var 1).ev (envOf F ns)) - 3900000000000000000) = _; rw [v1]
  have hS : BOp.ev .sub .i64 8000000000000000000 ((envOf F ns).v 1) = 8000000000000000000 - n := by
    show IntKind.i64.wrap (8000000000000000000 - (E.var 1).ev (envOf F ns)) = _
    rw [v1]
    exact i64w (by omega)
  rw [hHi]
  refine ⟨fun b1 => hno (by omega), fun b1 => ?_⟩
  have hL2 : rLo.ev (envOf F ns) = (s + 2208988800) * 1000000000 := by rw [hLo]; omega
  rw [hL2] at hR ⊢
  refine ⟨fun b2 => hno (by omega), fun b2 => ?_⟩
  rw [i64w (x := (s + 2208988800) * 1000000000) (by omega)] at hR
  rw [hR] at hO ⊢
  rw [hS]
  refine ⟨fun b3 => hno (by omega), fun b3 => ?_⟩
  rw [i64w (x := (s + 2208988800) * 1000000000 + n) (by omega), i64w (by omega)] at hO
  rw [hO]
  exact ⟨fun h => hno (by omega), fun c2 => ⟨fun h => hno (by omega), fun c3 => hyes (by omega) hO⟩⟩
end
def z2 : T SV := .ok (.tuple [.int .i64 (.lit 9223372036854775807), .bool (.lit 0)])
def m2 : T SV := .ok (.tuple [.int .i64 (.lit (-9223372036854775808)), .bool (.lit 0)])
def s2 : T SV := .ok (.tuple [.int .i64 (.bin .add .i64 (.var 0) (.var 1)), .bool (.lit 1)])
def addTreeA : T SV := .br (.bin .eq .i64 (.bin .lt .i64 (.var 0) (.lit 0)) (.bin .lt .i64 (.var 1) (.lit 0))) (.br (.bin .eq .i64 (.bin .lt .i64 (.bin .add .i64 (.var 0) (.var 1)) (.lit 0)) (.bin .lt .i64 (.var 0) (.lit 0))) s2 (vlt (.lit 0) (.var 0) z2 m2)) s2
def addTreeB : T SV := vlt (.lit 0) (.var 1) (vlt (.bin .sub .i64 (.lit 9223372036854775807) (.var 1)) (.var 0) (vlt (.lit 0) (.var 0) z2 m2) s2) (vlt (.var 1) (.lit 0) (vlt (.var 0) (.bin .sub .i64 (.lit (-9223372036854775808)) (.var 1)) (vlt (.lit 0) (.var 0) z2 m2) s2) s2)
set_option maxRecDepth 100000 in
theorem addA_tree : retI (callF Try.prog [] okF sumsN noKeep 80 30 26 (varShs [i1, i1] 0) .nil (varFacts [i1, i1] 0)) = addTreeA := by kernel_rfl
set_option maxRecDepth 100000 in
theorem addB_tree : retI (callF Try.prog [] okF sumsN noKeep 80 30 34 (varShs [i1, i1] 0) .nil (varFacts [i1, i1] 0)) = addTreeB := by kernel_rfl
section
variable {F : Nat → Nat → List Int → Int} {ns : List Int}
theorem add_leaf {e : E} {b : Int} (h0 : e.ev (envOf F ns) = addV (ns.getD 0 0) (ns.getD 1 0)) (h1 : b ≠ 0 ↔ (-9223372036854775808 ≤ ns.getD 0 0 + ns.getD 1 0 ∧ ns.getD 0 0 + ns.getD 1 0 ≤ 9223372036854775807)) :
    (T.ok (SV.tuple [.int .i64 e, .bool (.lit b)])).holds (envOf F ns) fun x => x.flat = true ∧ x.ev (envOf F ns) β0 = packV (shVals insRs (fnVals addF ns (shSize insRs) 0)) :=
  ret_two (b := 0) (by rw [h0]; unfold addF; rw [if_pos rfl]) (by
    rw [h1]
    unfold addF
    rw [if_neg (by decide)]
    split
    · rename_i h; exact ⟨fun _ => by decide, fun _ => h⟩
    · rename_i h; exact ⟨fun g => absurd g h, fun g => absurd rfl g⟩)
theorem add_hyp (hns : shFits [i1, i1] ns) : (-9223372036854775808 ≤ ns.getD 0 0 ∧ ns.getD 0 0 ≤ 9223372036854775807) ∧ -9223372036854775808 ≤ ns.getD 1 0 ∧ ns.getD 1 0 ≤ 9223372036854775807 := by
  obtain ⟨h1, h2, _⟩ := hns
  have e0 := headD_drop ns 0
  have e1 := headD_drop ns 1
  simp only [List.drop_zero] at e0
  constructor
  · rw [← e0]; exact wf64' h1
  · rw [← e1]; exact wf64' h2
theorem addA_holds (hns : shFits [i1, i1] ns) : addTreeA.holds (envOf F ns) fun x => x.flat = true ∧ x.ev (envOf F ns) β0 = packV (shVals insRs (fnVals addF ns (shSize insRs) 0)) := by
  have v0 : (E.var 0).ev (envOf F ns) = ns.getD 0 0 := rfl
  have v1 : (E.var 1).ev (envOf F ns) = ns.getD 1 0 := rfl
  have hl := @add_leaf F ns
  have hr := add_hyp hns
  have hs : (E.bin .add .i64 (.var 0) (.var 1)).ev (envOf F ns) = IntKind.i64.wrap (ns.getD 0 0 + ns.getD 1 0) := rfl
  have hlt : ∀ a b : E, (E.bin .lt .i64 a b).ev (envOf F ns) = if a.ev (envOf F ns) < b.ev (envOf F ns) then 1 else 0 := fun _ _ => rfl
  have l0 : (E.lit 0).ev (envOf F ns) = 0 := rfl
  rw [i64_wrap] at hs
  unfold addV at hl
  unfold addTreeA vlt
  simp only [br_lt, br_eq, hlt, hs, v0, v1, l0]
  generalize ns.getD 0 0 = a at *
  generalize ns.getD 1 0 = b at *
  refine ⟨fun c1 => ⟨fun c2 => hl ?_ ?_, fun c2 => ⟨fun c3 => hl ?_ ?_, fun c3 => hl ?_ ?_⟩⟩, fun c1 => hl ?_ ?_⟩ <;> first | (rw [hs]; (repeat' split at c1) <;> (repeat' split at c2) <;> (repeat' split) <;> omega) | (rw [hs]; (repeat' split at c1) <;> (repeat' split) <;> omega) | (show (_ : Int) = _; (repeat' split at c1) <;> (repeat' split at c2) <;> (repeat' split) <;> simp [E.ev] <;> omega) | ((repeat' split at c1) <;> (repeat' split at c2) <;> simp <;> omega) | ((repeat' split at c1) <;> simp <;> omega)
theorem addB_holds (hns : shFits [i1, i1] ns) : addTreeB.holds (envOf F ns) fun x => x.flat = true ∧ x.ev (envOf F ns) β0 = packV (shVals insRs (fnVals addF ns (shSize insRs) 0)) := by
  have v0 : (E.var 0).ev (envOf F ns) = ns.getD 0 0 := rfl
  have v1 : (E.var 1).ev (envOf F ns) = ns.getD 1 0 := rfl
  have hl := @add_leaf F ns
  have hr := add_hyp hns
  have hs : (E.bin .add .i64 (.var 0) (.var 1)).ev (envOf F ns) = IntKind.i64.wrap (ns.getD 0 0 + ns.getD 1 0) := rfl
  have h1 : (E.bin .sub .i64 (.lit 9223372036854775807) (.var 1)).ev (envOf F ns) = IntKind.i64.wrap (9223372036854775807 - ns.getD 1 0) := rfl
  have h2 : (E.bin .sub .i64 (.lit (-9223372036854775808)) (.var 1)).ev (envOf F ns) = IntKind.i64.wrap (-9223372036854775808 - ns.getD 1 0) := rfl
  have l0 : (E.lit 0).ev (envOf F ns) = 0 := rfl
  rw [i64_wrap] at hs h1 h2
  unfold addV at hl
  unfold addTreeB vlt
  simp only [br_lt, h1, h2, v0, v1, l0]
  generalize ns.getD 0 0 = a at *
  generalize ns.getD 1 0 = b at *
  refine ⟨fun c1 => ⟨fun c2 => ⟨fun c3 => hl ?_ ?_, fun c3 => hl ?_ ?_⟩, fun c2 => hl ?_ ?_⟩, fun c1 => ⟨fun c2 => ⟨fun c3 => ⟨fun c4 => hl ?_ ?_, fun c4 => hl ?_ ?_⟩, fun c3 => hl ?_ ?_⟩, fun c2 => hl ?_ ?_⟩⟩ <;> first | (rw [hs]; (repeat' split) <;> omega) | (show (_ : Int) = _; (repeat' split) <;> simp [E.ev] <;> omega) | (simp <;> omega)
end
theorem insA3_ok (v : List Int) (w : World) : SmOk Try.prog (envOf namesR v) w (fun _ => False) insA3 :=
  smOk_at (sums := sumsN) (okF := okF) (keep := noKeep) (fuel := 80) (n := 30) mixed okF_ok (fun _ _ _ => sums_none _ _ _ _) v fun ns hns => ⟨ins_fits ns, by
    show (retI (callF Try.prog [] okF sumsN noKeep 80 30 37 (varShs [stSh] 0) .nil (varFacts [stSh] 0))).holds _ _
    rw [insA_tree]; exact insA_holds hns⟩
theorem insB3_ok (v : List Int) (w : World) : SmOk Try.prog (envOf namesR v) w (fun _ => False) insB3 :=
  smOk_at (sums := sumsN) (okF := okF) (keep := noKeep) (fuel := 80) (n := 30) mixed okF_ok (fun _ _ _ => sums_none _ _ _ _) v fun ns hns => ⟨ins_fits ns, by
    show (retI (callF Try.prog [] okF sumsN noKeep 80 30 31 (varShs [stSh] 0) .nil (varFacts [stSh] 0))).holds _ _
    rw [insB_tree]; exact insB_holds hns⟩
theorem adA4_ok (v : List Int) (w : World) : SmOk Try.prog (envOf namesR v) w (fun _ => False) adA4 :=
  smOk_at (sums := sumsN) (okF := okF) (keep := noKeep) (fuel := 80) (n := 30) mixed okF_ok (fun _ _ _ => sums_none _ _ _ _) v fun ns hns => ⟨add_fits ns, by
    show (retI (callF Try.prog [] okF sumsN noKeep 80 30 26 (varShs [i1, i1] 0) .nil (varFacts [i1, i1] 0))).holds _ _
    rw [addA_tree]; exact addA_holds hns⟩
theorem adB4_ok (v : List Int) (w : World) : SmOk Try.prog (envOf namesR v) w (fun _ => False) adB4 :=
  smOk_at (sums := sumsN) (okF := okF) (keep := noKeep) (fuel := 80) (n := 30) mixed okF_ok (fun _ _ _ => sums_none _ _ _ _) v fun ns hns => ⟨add_fits ns, by
    show (retI (callF Try.prog [] okF sumsN noKeep 80 30 34 (varShs [i1, i1] 0) .nil (varFacts [i1, i1] 0))).holds _ _
    rw [addB_tree]; exact addB_holds hns⟩
def sumsR : Sums := sumsA 12 [insA3, insB3, kA, kB, adA4, adB4]
theorem nR {f : Nat} (h3 : f ≠ 3) (h4 : f ≠ 4) : namesR f = namesK f := (if_neg h3).trans (if_neg h4)
theorem sumsR_ok (ρ : Env) (h : ρ.fn = namesR) (w : World) : SumsOk Try.prog ρ w (fun _ => False) sumsR := by
  refine sumsA_ok (fun w' hk => awake_sx w') fun s hs => ?_
  simp only [List.mem_cons, List.not_mem_nil, or_false] at hs
  rcases hs with rfl | rfl | rfl | rfl | rfl | rfl
  · exact (insA3_ok [] w).congr (by rw [h]; rfl)
  · exact (insB3_ok [] w).congr (by rw [h]; rfl)
  · exact SmOk.congr (ρ := envOf namesK []) (show ρ.fn 2 = namesK 2 by rw [h]; exact nR (by decide) (by decide)) (kA_ok (envOf namesK []) rfl w)
  · exact SmOk.congr (ρ := envOf namesK []) (show ρ.fn 2 = namesK 2 by rw [h]; exact nR (by decide) (by decide)) (kB_ok (envOf namesK []) rfl w)
  · exact (adA4_ok [] w).congr (by rw [h]; rfl)
  · exact (adB4_ok [] w).congr (by rw [h]; rfl)
end Go.Proofs.Ytkjbekloacihaaa
