/- New clocks; what a law calls. -/
import Derived.Test.YtfcpmapfhgibpaaDoorWz
import Derived.Test.YtfcpmapfhgibpaaDoorWe
namespace Go.Proofs.YtfcpmapfhgibpaaDoor
open Go Go.RowKit SX Frm Frn
set_option linter.unusedVariables false
set_option linter.unusedSimpArgs false
set_option maxRecDepth 100000

def confSh : Sh := .agg [.int .u64, .int .i64, .int .i64, .int .i64, .int .i64, .int .i64, .int .i64, .int .i64, .int .i64, .int .i64, .int .i64]
def kB : Sm := ⟨9, 99, [confSh], [i1]⟩
noncomputable def nm98 : Nat → Nat → List Int → Int := fun f => if f = 97 then cntI else if f = 98 then okN else nm96 f
noncomputable def nm99 : Nat → Nat → List Int → Int := fun f => if f = 99 then autoF nm98 kB.rs (smT kB) else nm98 f
theorem but99 : But 99 nm99 nm98 := fun f hf => if_neg hf
set_option maxRecDepth 1000000 in
theorem good99 : (smT kB).good 99 kB.rs = true := by kernel_rfl
theorem sm99 (ρ : Env) (h : ρ.fn = nm99) (w : World) (M : Nat → Prop) : SmOk Tryd.prog ρ w M kB :=
  smAuto (okF := okF) (sums := sumsN) (keep := noKeep) (fuel := 80) (n := 30) (G := nm98) mixed okF_ok but99 (fun ns w' _ => sums_none _ _ _ _) h (fun ns j => congrFun (congrFun (if_pos rfl : nm99 99 = autoF nm98 kB.rs (smT kB)) j) ns) good99
/-- What Check asks for. -/
def cfF : Fs := confR ++ inF 1 8 7
def chkBEnd (o : Out) : Bool := match leafE [i1] o with
  | some [e] => (decideE o.fs (eq0 e (.lit 0)) == some false) || knows o.fs cfF
  | _ => false
set_option maxRecDepth 1000000 in
theorem chkB_tree : (smT kB).all chkBEnd = true := by kernel_rfl
theorem chkB_facts {ns : List Int} (hns : shFits [confSh] ns) (h : nm99 99 0 ns = 0) : SX.FsOk (envOf nm99 ns) cfF := by
  obtain ⟨o, es, c1, c2, c3, c4, _⟩ := auto_at (s := kB) (chk := chkBEnd) mixed okF_ok but99 (fun ns => sums_none _ _ _ _) (fun ns j => congrFun (congrFun (if_pos rfl : nm99 99 = autoF nm98 kB.rs (smT kB)) j) ns) good99 chkB_tree hns
  unfold chkBEnd at c1
  rw [show leafE [i1] o = some es from c3] at c1
  split at c1
  · rename_i e he
    obtain rfl := Option.some.inj he
    have hv : nm99 99 0 ns = e.ev (envOf nm99 ns) := congrArg (fun l => l.headD 0) c4
    rw [Bool.or_eq_true] at c1
    rcases c1 with c1 | c1
    · rw [beq_iff_eq] at c1
      exact absurd (hv.symm.trans h) (neq_of_decide c2 c1)
    · exact knows_ok c2 c1
  · cases c1
/-! ### New -/
/-- The numbers of a new clock with n ports. -/
def newEs (n : Nat) : List E := ((List.range 11).map .var ++ ownE ++ [.lit 0]) ++ (List.range n).flatMap fun _ => [.lit 4, .lit 0, .lit 0, .lit 0, .app 45 0 [.var 8, .var 9], .app 73 0 [.var 6]]
noncomputable def newN (j : Nat) (cs : List Int) : Int := codL (cs.getD 7 0 :: E.evs (envOf nm99 cs) (newEs (cs.getD 7 0).toNat))
noncomputable def nm100 : Nat → Nat → List Int → Int := fun f => if f = 100 then newN else nm99 f
theorem law99 : Law nm99 ∧ ∀ f, f < 97 → nm99 f = nm96 f := by
  have b : ∀ f, f < 97 → nm99 f = nm96 f := fun f hf => (but99 f (by omega)).trans ((if_neg (by omega)).trans (if_neg (by omega)))
  refine ⟨⟨⟨top96.hi.congr fun f hf => b f (by omega), ?_, ?_, ?_, ?_, ?_, ?_, ?_, ?_, ?_, ?_, ?_⟩, but99 97 (by decide), but99 98 (by decide)⟩, b⟩
  · exact (b 80 (by decide)).trans top96.e80
  · exact (b 82 (by decide)).trans top96.e82
  · exact (b 83 (by decide)).trans top96.e83
  · exact (b 84 (by decide)).trans top96.e84
  · exact (b 86 (by decide)).trans top96.e86
  · exact (b 88 (by decide)).trans top96.e88
  · exact (b 90 (by decide)).trans top96.e90
  · exact (b 92 (by decide)).trans top96.e92
  · exact (b 93 (by decide)).trans top96.e93
  · exact (b 94 (by decide)).trans top96.e94
  · exact (b 96 (by decide)).trans top96.e96
def sumsB : Sums := sumsOf [kB]
def spNw : SpcT := orT (ofSpc (orSpec spExNew (sumSpec sumsB))) spM
noncomputable def callN : Caller := callH Tryd.prog (tabGl tabs2 0) okF spNw noKeep 80 30
def ruOne (e : E) : Rule := ⟨[], [oneF e]⟩
def newRus (n : Nat) : List Rule := [ruOne (.app 58 0 (cs6 ++ ownE)), ruOne (.app 59 0 (List.replicate n (.lit 4))), ruOne (.app 57 0 [.app 45 0 [.var 8, .var 9], .var 0])]
def chk0 : E × Bool := (eq0 (.app 99 0 ((List.range 11).map .var)) (.lit 0), true)
def newFs (n : Nat) : Fs := chk0 :: (eq0 (.var 7) (litN n), true) :: (confR ++ varFacts [confSh] 0)
noncomputable def newT (n : Nat) : T Out := callN 8 (varShs [confSh] 0) (tabHp tabs2) (newFs n)
def newLeaf (n : Nat) (o : Out) : Bool := makOk (newRus n) (clA n) o && E.beqs ((List.range (clA n).nv).map (makS (newRus n) (clA n) o)) (newEs n)
noncomputable def nilT : T Out := callN 8 (varShs [confSh] 0) (tabHp tabs2) ((chk0.1, false) :: varFacts [confSh] 0)
def nilLeaf (o : Out) : Bool := match o.v with
  | .raw (.pointer none) => true
  | _ => false
set_option maxRecDepth 1000000 in
theorem nil_tree : nilT.all nilLeaf = true := by kernel_rfl
set_option maxRecDepth 1000000 in
theorem new1 : (newT 1).all (newLeaf 1) = true := by kernel_rfl
set_option maxRecDepth 1000000 in
theorem new2 : (newT 2).all (newLeaf 2) = true := by kernel_rfl
set_option maxRecDepth 1000000 in
theorem new3 : (newT 3).all (newLeaf 3) = true := by kernel_rfl
set_option maxRecDepth 1000000 in
theorem new4 : (newT 4).all (newLeaf 4) = true := by kernel_rfl
set_option maxRecDepth 1000000 in
theorem new5 : (newT 5).all (newLeaf 5) = true := by kernel_rfl
set_option maxRecDepth 1000000 in
theorem new6 : (newT 6).all (newLeaf 6) = true := by kernel_rfl
set_option maxRecDepth 1000000 in
theorem new7 : (newT 7).all (newLeaf 7) = true := by kernel_rfl
set_option maxRecDepth 1000000 in
theorem new8 : (newT 8).all (newLeaf 8) = true := by kernel_rfl
theorem new_all {n : Nat} (h : 1 ≤ n) (h' : n ≤ 8) : (newT n).all (newLeaf n) = true := by8 (p := fun n => (newT n).all (newLeaf n) = true) new1 new2 new3 new4 new5 new6 new7 new8 h h'
end Go.Proofs.YtfcpmapfhgibpaaDoor
namespace Go.Proofs.YtfcpmapfhgibpaaDoor
open Go Go.RowKit SX Frm Frn
set_option linter.unusedVariables false
set_option linter.unusedSimpArgs false
set_option maxRecDepth 100000

theorem own_own (q : List Int) : followN q (ownL q) = 1 := followN_iff.2 (.inl rfl)
theorem evs_rep {ρ : Env} : ∀ n : Nat, E.evs ρ (List.replicate n (.lit 4)) = List.replicate n 4
  | 0 => rfl
  | n + 1 => by rw [List.replicate_succ, List.replicate_succ]; show (4 : Int) :: E.evs _ (List.replicate n (.lit 4)) = _; rw [evs_rep n]
/-- A call at the tables alone. -/
theorem call_tab {P : Program} {ρ : Env} {tabs : Tabs} {w : World} {call : Caller} (hd : (tabs.map (·.1)).Nodup) (ht : TabsIn tabs w) (hc : CallOk P ρ w (fun _ => False) (tabGl tabs 0) call) {f : FuncId} {args : List SV} {fs : Fs} (hf : SX.FsOk ρ fs) (hargs : SV.oks ρ 0 args) {K : Value → World → Prop}
    (hg : Goes ρ w (fun _ => False) (tabB tabs) (tabHp tabs) (call f args (tabHp tabs) fs) K) : Calls P f (SV.evs ρ (tabB tabs) args).toArray w fun e w' => ∃ v, e = .returned v ∧ K v w' :=
  (hc f args (tabHp tabs) fs (tabB tabs) w K (tab_heap hd ht _ ρ) hf (SV.oks_mono (Nat.zero_le _) _ hargs) (tab_gl (fun j p hj => by simp [tabB, hj]) (by simp [tabHp])) hg).2
theorem newRus_ok (cs : List Int) (n : Nat) : ∀ r ∈ newRus n, RuleOk (envOf nm99 cs) r := fun r hr => by
  have hl : Low nm99 := law99.1.top.hi.mid.low
  simp only [newRus, List.mem_cons, List.not_mem_nil, or_false] at hr
  rcases hr with rfl | rfl | rfl <;> refine fun _ => oneF_ok.2 ?_
  · show nm99 58 0 _ = 1
    rw [hl 58 (by decide), evs_app, own_evs]
    show followN ((E.evs _ cs6 ++ ownL (E.evs _ cs6)).take 6) ((E.evs _ cs6 ++ ownL (E.evs _ cs6)).drop 6) = 1
    exact own_own (E.evs (envOf nm99 cs) cs6)
  · show nm99 59 0 _ = 1
    rw [hl 59 (by decide)]
    show stsN _ = 1
    rw [evs_rep, stsN_iff]
    have hg : ∀ i, i < n → (List.replicate n (4 : Int)).getD i 0 = 4 := fun i hi => by
      rw [List.getD_eq_getElem?_getD, List.getElem?_replicate, if_pos hi]; rfl
    refine ⟨fun i hi => ?_, fun i j hi hj h7 _ => ?_⟩
    · rw [hg i (by simpa using hi)]; omega
    · rw [hg i (by simpa using hi)] at h7; omega
  · show nm99 57 0 [nm99 45 0 _, cs.getD 0 0] = 1
    rw [hl 57 (by decide), hl 45 (by decide)]
    show wellN (code (newS (cs.getD 8 0) (cs.getD 9 0))) (cs.getD 0 0) = 1
    rw [wellN_iff, dec_code]
    exact fun r hr => by cases hr
section
variable {cs : List Int} {w : World}
theorem callN_ok (cs : List Int) {w : World} (hT : TabsIn tabs2 w) : CallOk Tryd.prog (envOf nm99 cs) w (fun _ => False) (tabGl tabs2 0) callN := by
  have h := law99.1.top.hi
  have hk : ∀ w', Kept w (fun _ => False) w' → TabsIn tabs2 w' := fun w' hk => TabsIn.kept hT hk
  exact callH_run mixed okF_ok (orT_ok (ofSpc_ok (orSpec_ok (spExNew_ok h.en) (sumSpec_ok (sumsOf_ok fun s hs => by
    obtain rfl : s = kB := by simpa using hs
    exact sm99 (envOf nm99 cs) rfl w _)))) (spM_ok h.mid.low hk (sums41_all hk))) 30
theorem conf_ev {β : Bm} (hns : shFits [confSh] cs) (F : Nat → Nat → List Int → Int) : SV.evs (envOf F cs) β (varShs [confSh] 0) = shVals [confSh] cs ∧ SV.oks (envOf F cs) 0 (varShs [confSh] 0) ∧ SX.FsOk (envOf F cs) (varFacts [confSh] 0) := by
  have h0 : shFits [confSh] (cs.drop 0) := by rwa [List.drop_zero]
  obtain ⟨v1, v2, v3⟩ := varShs_spec (F := F) (β := β) (n := 0) (hs := [confSh]) (i := 0) h0
  rw [List.drop_zero] at v1
  exact ⟨v1, v2, varFacts_ok h0⟩
theorem vars_self {cs : List Int} {n : Nat} (h : cs.length = n) : (List.range n).map (fun i => cs.getD i 0) = cs := by
  refine List.ext_getElem? fun i => ?_
  by_cases hi : i < n
  · rw [List.getElem?_map, List.getElem?_range hi, List.getElem?_eq_getElem (by omega)]
    show some (cs.getD i 0) = _
    rw [List.getD_eq_getElem?_getD, List.getElem?_eq_getElem (by omega)]; rfl
  · rw [List.getElem?_eq_none (by simp; omega), List.getElem?_eq_none (by omega)]
theorem evs_vars (n : Nat) (F : Nat → Nat → List Int → Int) : E.evs (envOf F cs) ((List.range n).map .var) = (List.range n).map fun i => cs.getD i 0 := range_evs n _
theorem nilLeaf_ev {o : Out} (ho : nilLeaf o = true) {ρ : Env} {β : Bm} : o.v.ev ρ β = .pointer none := by
  unfold nilLeaf at ho
  split at ho
  · rename_i hv; rw [hv]; rfl
  · cases ho
/-- Check finds an error: nil. -/
theorem clk_nil {cs : List Int} (hns : shFits [confSh] cs) (hlen : cs.length = 11) (h : nm99 99 0 cs ≠ 0) {w : World} (hT : TabsIn tabs2 w) : Calls Tryd.prog 8 (shVals [confSh] cs).toArray w fun e w' => e = .returned (.pointer none) ∧ Below w.heap.size w w' := by
  obtain ⟨e1, e2, e3⟩ := conf_ev (β := tabB tabs2) hns nm99
  rw [← e1]
  have hf : SX.FsOk (envOf nm99 cs) ((chk0.1, false) :: varFacts [confSh] 0) := by
    rw [fsOk_cons]
    refine ⟨?_, e3⟩
    show (eq0 (.app 99 0 ((List.range 11).map .var)) (.lit 0)).ev _ ≠ 0 ↔ _
    rw [eq0_ev]
    show nm99 99 0 (E.evs _ _) = 0 ↔ _
    rw [evs_vars, vars_self hlen]
    exact ⟨fun e => absurd e h, fun e => Bool.noConfusion e⟩
  have hg : Goes (envOf nm99 cs) w (fun _ => False) (tabB tabs2) (tabHp tabs2) nilT (fun v w' => v = .pointer none ∧ Below w.heap.size w w') := goes_all nil_tree fun o ho β' w' _ _ _ hh _ _ => ⟨nilLeaf_ev ho, hh.kept.to_below⟩
  exact (call_tab tabs2_nd hT (callN_ok cs hT) hf e2 hg).mono fun e w' ⟨v, he, hv, hb⟩ => ⟨by rw [he, hv], hb⟩
theorem newT_all {n : Nat} (h : 1 ≤ n) (h' : n ≤ 8) : (callN 8 (varShs [confSh] 0) (tabHp tabs2) (newFs n)).all (newLeaf n) = true := by
  have := new_all h h'
  unfold newT at this
  exact this
/-- A new clock, and nothing else. -/
def NewQ (cs : List Int) (w : World) (v : Value) (w' : World) : Prop := ∃ b φ, v = ptrV b ∧ Ob 5 [newN 0 cs] b φ w' ∧ (∀ i, φ i → w.heap.size ≤ i) ∧ Below w.heap.size w w'
theorem fam_at {n : Nat} (hn1 : 1 ≤ n) (hn8 : n ≤ 8) : clK.fam n = some (clA n) := by
  show clFam n = _
  unfold clFam
  rw [if_pos ⟨hn1, hn8⟩]; rfl
theorem newLeaf_ns {n : Nat} {o : Out} (h : E.beqs ((List.range (clA n).nv).map (makS (newRus n) (clA n) o)) (newEs n) = true) (cs : List Int) : makNs (newRus n) (clA n) o (envOf nm99 cs) = E.evs (envOf nm99 cs) (newEs n) := by
  have := congrArg (E.evs (envOf nm99 cs)) (E.beqs_eq _ _ h)
  rw [range_evs] at this
  exact this
theorem newN_at {cs : List Int} {n : Nat} (hn : cs.getD 7 0 = (n : Int)) : newN 0 cs = codL ((n : Int) :: E.evs (envOf nm99 cs) (newEs n)) := by
  unfold newN
  rw [hn, Int.toNat_natCast]
theorem new_leaf {cs : List Int} {n : Nat} (hn1 : 1 ≤ n) (hn8 : n ≤ 8) (hn : cs.getD 7 0 = (n : Int)) {o : Out} (ho : newLeaf n o = true) {β' : Bm} {w w' : World} (hh : Heap (envOf nm99 cs) w (fun _ => False) β' o.hp w') (hfo : SX.FsOk (envOf nm99 cs) o.fs) (hv : o.v.ok (envOf nm99 cs) o.hp.n) : NewQ cs w (o.v.ev (envOf nm99 cs) β') w' := by
  unfold newLeaf at ho
  rw [Bool.and_eq_true] at ho
  obtain ⟨b, φ, a1, a2, a3, a4⟩ := made_run clK_ok (fam_at hn1 hn8) law99.1.top.hi.mid.low hh hfo (newRus_ok cs n) hv ho.1
  rw [newLeaf_ns ho.2, ← newN_at hn] at a2
  exact ⟨b, φ, a1, a2, a3, a4⟩
theorem clk_gen {call : Caller} {f : FuncId} {cs : List Int} {w : World} {n : Nat} {fs : Fs} (hT : TabsIn tabs2 w) (hc : CallOk Tryd.prog (envOf nm99 cs) w (fun _ => False) (tabGl tabs2 0) call) (hn1 : 1 ≤ n) (hn8 : n ≤ 8) (hn : cs.getD 7 0 = (n : Int)) (hf : SX.FsOk (envOf nm99 cs) fs) (e2 : SV.oks (envOf nm99 cs) 0 (varShs [confSh] 0))
    (ha : (call f (varShs [confSh] 0) (tabHp tabs2) fs).all (newLeaf n) = true) : Calls Tryd.prog f (SV.evs (envOf nm99 cs) (tabB tabs2) (varShs [confSh] 0)).toArray w fun e w' => ∃ v, e = .returned v ∧ NewQ cs w v w' :=
  call_tab tabs2_nd hT hc hf e2 (goes_all ha fun o ho β' w' _ _ _ hh hfo hv => new_leaf hn1 hn8 hn ho hh hfo hv)
/-- Check finds none: a new clock. -/
theorem clk_any {cs : List Int} (hns : shFits [confSh] cs) (hlen : cs.length = 11) (h : nm99 99 0 cs = 0) {w : World} (hT : TabsIn tabs2 w) : Calls Tryd.prog 8 (shVals [confSh] cs).toArray w fun e w' => ∃ b φ, e = .returned (ptrV b) ∧ Ob 5 [newN 0 cs] b φ w' ∧ (∀ i, φ i → w.heap.size ≤ i) ∧ Below w.heap.size w w' := by
  obtain ⟨e1, e2, e3⟩ := conf_ev (β := tabB tabs2) hns nm99
  have hcf := chkB_facts hns h
  obtain ⟨hc1, hc2⟩ := fsOk_apps.1 hcf
  have h7 : 1 ≤ cs.getD 7 0 ∧ cs.getD 7 0 ≤ 8 := by
    have hc2 : SX.FsOk (envOf nm99 cs) [(lt0 (.var 7) (.lit 1), false), (lt0 (.lit 8) (.var 7), false)] := hc2
    rw [fsOk_cons, fsOk_cons, lt0_ev, lt0_ev] at hc2
    have a : ¬ cs.getD 7 0 < 1 := fun c => Bool.noConfusion (hc2.1.1 c)
    have b : ¬ 8 < cs.getD 7 0 := fun c => Bool.noConfusion (hc2.2.1.1 c)
    omega
  obtain ⟨n, hn⟩ : ∃ n : Nat, cs.getD 7 0 = (n : Int) := ⟨(cs.getD 7 0).toNat, by omega⟩
  have hn1 : 1 ≤ n := by omega
  have hn8 : n ≤ 8 := by omega
  rw [← e1]
  have hf : SX.FsOk (envOf nm99 cs) (newFs n) := by
    unfold newFs
    rw [fsOk_cons, fsOk_cons]
    refine ⟨?_, ?_, fsOk_app hc1 e3⟩
    · show (eq0 (.app 99 0 ((List.range 11).map .var)) (.lit 0)).ev _ ≠ 0 ↔ true = true
      rw [eq0_ev]
      show nm99 99 0 (E.evs _ _) = 0 ↔ _
      rw [evs_vars, vars_self hlen]
      exact ⟨fun _ => rfl, fun _ => h⟩
    · rw [eq0_ev]
      exact ⟨fun _ => rfl, fun _ => hn⟩
  have hc := clk_gen hT (callN_ok cs hT) hn1 hn8 hn hf e2 (newT_all hn1 hn8)
  exact hc.mono fun e w' ⟨v, he, b, φ, h1, h2⟩ => ⟨b, φ, by rw [he, h1], h2⟩
end
/-! ### At a call -/
structure Law2 (F : Nat → Nat → List Int → Int) : Prop where
  law : Law F
  chk : F 99 = nm99 99
  new : F 100 = newN
theorem law100 : Law2 nm100 := by
  have b : ∀ f, f < 100 → nm100 f = nm99 f := fun f hf => if_neg (by omega)
  refine ⟨⟨⟨law99.1.top.hi.congr fun f hf => b f (by omega), ?_, ?_, ?_, ?_, ?_, ?_, ?_, ?_, ?_, ?_, ?_⟩, (b 97 (by decide)).trans law99.1.cnt, (b 98 (by decide)).trans law99.1.ok⟩, b 99 (by decide), if_pos rfl⟩
  · exact (b 80 (by decide)).trans law99.1.top.e80
  · exact (b 82 (by decide)).trans law99.1.top.e82
  · exact (b 83 (by decide)).trans law99.1.top.e83
  · exact (b 84 (by decide)).trans law99.1.top.e84
  · exact (b 86 (by decide)).trans law99.1.top.e86
  · exact (b 88 (by decide)).trans law99.1.top.e88
  · exact (b 90 (by decide)).trans law99.1.top.e90
  · exact (b 92 (by decide)).trans law99.1.top.e92
  · exact (b 93 (by decide)).trans law99.1.top.e93
  · exact (b 94 (by decide)).trans law99.1.top.e94
  · exact (b 96 (by decide)).trans law99.1.top.e96
def subF (L : List E) (l : Fs) : Fs := l.map fun p => (p.1.sub fun i => L.getD i (.lit 0), p.2)
def newX (L : List E) : E := .app 100 0 L
def isNewB (L : List E) (hp : Hp) (fs : Fs) : T Out := SX.split fs (eq0 (.app 99 0 L) (.lit 0))
  (fun fs' => .ok ⟨.ptr hp.n 0, hp.push ⟨true, .obj 5 [newX L]⟩, learnAll (oneF (okE (newX L) (L.take 6)) :: subF L cfF) fs'⟩)
  (fun fs' => .ok ⟨.raw (.pointer none), hp, fs'⟩)
def spNewB : SpcT := fun f args hp fs => if f = 8 then (match shTakes [confSh] args with
  | some es => if Nat.beq es.length 11 then some (isNewB (canons fs es) hp fs) else none
  | none => none) else none
theorem cfF_in : (cfF.all fun p => p.1.within 11 0) = true := by kernel_rfl
theorem evs_tk {ρ : Env} : ∀ (l : List E) (n : Nat), E.evs ρ (l.take n) = (E.evs ρ l).take n
  | _, 0 => by simp [E.evs]
  | [], n + 1 => rfl
  | e :: l, n + 1 => by show e.ev ρ :: E.evs ρ (l.take n) = _; rw [evs_tk l n]; rfl
theorem canons_len (fs : Fs) : ∀ es : List E, (canons fs es).length = es.length
  | [] => rfl
  | e :: es => by show (canons fs es).length + 1 = _; rw [canons_len fs es]; rfl
theorem spNewB_ok {ρ : Env} {w0 : World} {M : Nat → Prop} {gl : Gl} (h : Law2 ρ.fn) (hT : ∀ w', Kept w0 M w' → TabsIn tabs2 w') : SpecOkT Tryd.prog ρ w0 M gl spNewB := fun f args hp fs t ht β w K hh hfs ha hg hK => by
  unfold spNewB at ht
  split at ht
  · rename_i hfe
    subst hfe
    split at ht
    · rename_i es hes
      split at ht
      · rename_i hl
        rw [beq_iff, decide_eq_true_eq] at hl
        obtain rfl := Option.some.inj ht
        obtain ⟨a1, a2⟩ := shTakes_spec (β := β) ha hes
        have hce : E.evs ρ (canons fs es) = E.evs ρ es := canons_ev hfs es
        have hcl : (canons fs es).length = 11 := by rw [canons_len, hl]
        rw [← hce] at a1 a2
        generalize canons fs es = L at *
        generalize hcs : E.evs ρ L = cs at *
        have hlen : cs.length = 11 := by rw [← hcs, evs_len, hcl]
        have hTw : TabsIn tabs2 w := hT w hh.kept
        rw [a1]
        obtain ⟨fs1, hf1, h1⟩ := split_holds hfs hK
        have hchk : (eq0 (.app 99 0 L) (.lit 0)).ev ρ ≠ 0 ↔ nm99 99 0 cs = 0 := by
          rw [eq0_ev]
          show ρ.fn 99 0 (E.evs ρ L) = 0 ↔ _
          rw [h.chk, hcs]
        rcases h1 with ⟨c1, h1⟩ | ⟨c1, h1⟩
        · have hc := hchk.1 c1
          have hnew := clk_any a2 hlen hc hTw
          obtain ⟨b0, φ0, w0', hob0⟩ : ∃ b φ w', Ob 5 [newN 0 cs] b φ w' := calls_some hnew fun _ w' ⟨b, φ, _, h, _⟩ => ⟨b, φ, w', h⟩
          have hgood : Good (newN 0 cs) (E.evs ρ (L.take 6)) := by
            obtain ⟨t, ns, a, β', ψ, e3, hfam, hl2, _, hfs2, _, _⟩ := (clK_ok.is _ _ _ _).1 hob0
            obtain ⟨t1, t8, rfl⟩ := fam_n hfam
            have e3 : newN 0 cs = codL ((t : Int) :: ns) := by simpa using e3
            rw [clA_nv] at hl2
            refine ⟨t, ns, e3, t1, t8, hl2, hfs2, ?_⟩
            unfold newN at e3
            have e4 := codL_inj e3
            simp only [List.cons.injEq] at e4
            obtain ⟨_, rfl⟩ := e4
            rw [evs_tk, hcs]
            have hh6 : ∀ n, (E.evs (envOf nm99 cs) (newEs n)).take 6 = (List.range 6).map fun i => cs.getD i 0 := fun n => rfl
            rw [hh6]
            refine List.ext_getElem? fun i => ?_
            by_cases hi : i < 6
            · rw [List.getElem?_map, List.getElem?_range hi, List.getElem?_take_of_lt hi, List.getElem?_eq_getElem (by omega)]
              show some (cs.getD i 0) = _
              rw [List.getD_eq_getElem?_getD, List.getElem?_eq_getElem (by omega)]; rfl
            · rw [List.getElem?_eq_none (by simp; omega), List.getElem?_eq_none (by rw [List.length_take]; omega)]
          have hfx : SX.FsOk ρ (learnAll (oneF (okE (newX L) (L.take 6)) :: subF L cfF) fs1) := by
            refine learnAll_ok ?_ hf1
            refine oneF_cons.2 ⟨?_, ?_⟩
            · show ρ.fn 98 0 (ρ.fn 100 0 (E.evs ρ L) :: E.evs ρ (L.take 6)) = 1
              rw [h.law.ok, h.new, hcs, okN_iff]; exact hgood
            · have hcf := chkB_facts a2 hc
              intro p hp
              obtain ⟨q, hq, rfl⟩ := List.mem_map.1 hp
              have hev : (q.1.sub fun i => L.getD i (.lit 0)).ev ρ = q.1.ev (envOf nm99 cs) := by
                rw [E.sub_ev]
                refine E.ev_near (n := 11) (m := 0) ⟨fun i hi => ?_, fun f hf => by omega⟩ q.1 (List.all_eq_true.1 cfF_in q hq)
                show (L.getD i (.lit 0)).ev ρ = cs.getD i 0
                rw [← hcs, evs_getD]
              show (q.1.sub _).ev ρ ≠ 0 ↔ q.2 = true
              rw [hev]; exact hcf q hq
          refine hnew.mono fun e w' ⟨b, φ, he, hob, hφ, hb⟩ => ⟨_, he, ?_⟩
          have hob' : Ob 5 (E.evs ρ [newX L]) b φ w' := by
            show Ob 5 [ρ.fn 100 0 (E.evs ρ L)] b φ w'
            rw [h.new, hcs]; exact hob
          have := h1 (upd β hp.n (b, 0)) w' (upd_ext _ _ _) (by simp) (Stay.push _ _) (Heap.newObj hh hb hob' hφ) hfx (by show hp.n < _; simp)
          have e2 : SV.ev ρ (upd β hp.n (b, 0)) (SV.ptr hp.n 0) = ptrV b := by
            show Value.pointer (some ⟨(upd β hp.n (b, 0) hp.n).1, 0, none⟩) = _
            rw [upd_same]; rfl
          rw [e2] at this
          exact this
        · have hc : nm99 99 0 cs ≠ 0 := fun e => hchk.2 e c1
          exact (clk_nil a2 hlen hc hTw).mono fun e w' ⟨he, hb⟩ => ⟨_, he, h1 β w' (Ext.refl _ _) (Nat.le_refl _) (Stay.refl _) (hh.below hb) hf1 trivial⟩
      · cases ht
    · cases ht
  · cases ht
end Go.Proofs.YtfcpmapfhgibpaaDoor
namespace Go.Proofs.YtfcpmapfhgibpaaDoor
open Go Go.RowKit SX Frm Frn
set_option linter.unusedVariables false
set_option linter.unusedSimpArgs false
set_option maxRecDepth 100000

def actLk : List Lk := [.int .i64, .int .i64, .int .i64] ++ [.int .i64, .int .i64, .int .i64, .int .i64, .int .u64, .int .i64, .int .i64, .int .i64, .int .i64, .int .i64, .int .u64, .int .i64, .int .i64, .int .i64, .int .i64, .int .i64, .int .i64, .int .i64, .int .u64, .int .i64, .int .i64]
def shtSh : List Ph := [.sl actLk]
/-- Ends with true or false. -/
def boolEnd (P : Program) (fn : Func) (r : Rs) : Bool := match r.x with
  | .exit _ => false
  | _ => match resultsS P r.st fn.results.toList with
    | some [.bool (.lit _)] => true
    | _ => false
theorem boolEnd_spec {P : Program} {fn : Func} {r : Rs} (h : boolEnd P fn r = true) : (∀ id, r.x ≠ .exit id) ∧ ∃ n, resultsS P r.st fn.results.toList = some [.bool (.lit n)] := by
  unfold boolEnd at h
  split at h
  · cases h
  · rename_i hx
    refine ⟨fun id e => hx id e, ?_⟩
    split at h
    · rename_i n hn; exact ⟨n, hn⟩
    · cases h
noncomputable def shtCode : Code := (Tryd.f6.body).getD .skip
noncomputable def callSh : Caller := callG Tryd.prog (tabGl tabs2 0) okF noSpec noKeep 80 30
def shtI : E := .bin .zadd .i64 (.var 0) (.bin .zmul .i64 (.lit (-1)) (.var 2))
def actsL : SV := .inp 2 24 0 (.var 0) (.var 0) (.var 1)
def tabBx2 : List Box := [⟨false, .ro (cellsF.map ofLeaf)⟩, ⟨false, .ro (cellsP.map ofLeaf)⟩]
def shtT : TmR := ⟨⟨23, [(10, .int .i64 shtI), (8, actsL), (9, .int .i64 (.var 0))], tabBx2 ++ [⟨false, .arr 0 actLk (.var 0)⟩], lenU 0 ++ [(lt0 shtI (.lit 0), false), (lt0 (.var 2) (.lit 0), false)]⟩, .var 2, []⟩
def shtC : CutR := ⟨[1, 1, 0, 1, 0], 1, [shtT]⟩
set_option maxRecDepth 1000000 in
theorem sht_enter : ((execP Tryd.prog (tabGl tabs2 0) callSh (noKeep 6) 80 shtCode (entrySt Tryd.f6 (phArgs tabs2.length (phSize shtSh) none shtSh 0) (arrHp tabs2 (phKs shtSh) (phSize shtSh)) ([] ++ (lenU (phSize shtSh) ++ phFacts shtSh 0)))).all (leafOkR (tabGl tabs2 0) [shtC] (boolEnd Tryd.prog Tryd.f6) (phSize shtSh + 2) [] 2)) = true := by kernel_rfl
set_option maxRecDepth 1000000 in
theorem sht_round (g : Nat → Value) : roundOkR Tryd.prog (tabGl tabs2 0) callSh (noKeep 6) 80 [shtC] (boolEnd Tryd.prog Tryd.f6) (phSize shtSh + 2) shtCode [] shtC shtT g = true := by kernel_rfl
set_option maxRecDepth 1000000 in
theorem sht_body : Tryd.f6.body = some shtCode := by kernel_rfl
theorem sht_calls {b off len cap : Nat} {A : Nat → Nat → Int → Int} {w : World} (ht : TabsIn tabs2 w) (h : ArrIn w actLk b off len cap A) : Calls Tryd.prog 6 #[.slice (some ⟨b, off, none⟩) len cap] w fun e w' => (e = .returned (.bool true) ∨ e = .returned (.bool false)) ∧ Below w.heap.size w w' :=
  fn_arr (R := fun e w' => (e = .returned (.bool true) ∨ e = .returned (.bool false)) ∧ Below w.heap.size w w') (hs := shtSh) (ns := []) (p := []) (rk := 2) (rs0 := []) (cuts := [shtC]) (endOk := boolEnd Tryd.prog Tryd.f6) (call := callSh) (keep := noKeep 6) (fuel := 80) tabs2 tabs2_nd ht mixed FN Tryd.func6 sht_body rfl h trivial rfl (fsOk_nil.2 trivial)
    (fun ρ' hρ => callG_run mixed okF_ok noSpec_ok 30)
    (fun ρ' hρ c hc t htm r hr => by
      obtain rfl : c = shtC := by simpa using hc
      obtain rfl : t = shtT := by simpa [shtC] using htm
      cases hr)
    (fun c hc t htm => by
      obtain rfl : c = shtC := by simpa using hc
      obtain rfl : t = shtT := by simpa [shtC] using htm
      exact ⟨.leaf, fun g => CT.mk0 (sht_round g)⟩)
    (fun _ h => by cases h) sht_enter
    (fun ρ' β' r a w' hρ hc he => by
      obtain ⟨h1, n, h2⟩ := boolEnd_spec he
      refine ⟨h1, _, h2, ?_, hc.heap.kept.to_below⟩
      show (Ending.returned (.bool (decide (n ≠ 0))) = _ ∨ Ending.returned (.bool (decide (n ≠ 0))) = _)
      by_cases c : n = 0
      · exact .inr (by rw [decide_eq_false (fun h => h c)])
      · exact .inl (by rw [decide_eq_true c]))
def isT (o : Option Bool) : Bool := match o with
  | some true => true
  | _ => false
theorem isT_spec {o : Option Bool} (h : isT o = true) : o = some true := by
  unfold isT at h
  split at h
  · rfl
  · cases h
def spShort : SpcT := fun f args hp fs => match args with
  | [.inp k z o l0 l c] => match hp.at k with
    | some ⟨_, .arr 0 ks l0'⟩ => if f = 6 ∧ lksEq ks actLk = true ∧ o = 0 ∧ l0'.beq l = true ∧ isT (decideE fs (lt0 (.lit 0) l)) = true
      then some (.both (.ok ⟨.bool (.lit 1), hp, fs⟩) (.ok ⟨.bool (.lit 0), hp, fs⟩)) else none
    | _ => none
  | _ => none
theorem spShort_ok {ρ : Env} {w0 : World} {gl : Gl} (hT : TabsIn tabs2 w0) : SpecOkT Tryd.prog ρ w0 (fun _ => False) gl spShort := fun f args hp fs t ht β w K hh hfs ha hg hK => by
  unfold spShort at ht
  split at ht
  · rename_i k z off l0 l c
    split at ht
    · rename_i r ks l0' hk
      split at ht
      · rename_i hc
        obtain ⟨c1, c2, rfl, c4, c5⟩ := hc
        obtain rfl := Option.some.inj ht
        obtain rfl := lksEq_spec c2
        obtain rfl := E.beq_eq _ _ c4
        have h1 := lt_of_decide hfs (isT_spec c5)
        obtain ⟨a1, _⟩ := ha
        obtain ⟨a1, a2, a3, a4, a5⟩ := a1
        have h3 : l0'.ev ρ ≤ 9223372036854775807 := by
          have i2 : IntKind.i64.max = 9223372036854775807 := by decide
          have := ((wf_iff .i64 _).1 a2).2
          rwa [i2] at this
        have hA := ArrIn.of_heap hh hk rfl (len := l0') (cap := c) h1 a4 h3
        have e : SV.evs ρ β [SV.inp k z 0 l0 l0' c] = [.slice (some ⟨(β k).1, (β k).2, none⟩) (l0'.ev ρ).toNat (c.ev ρ).toNat] := by simp only [SV.evs, SV.ev, Nat.add_zero]
        rw [e]
        subst c1
        refine (sht_calls (TabsIn.kept hT hh.kept) hA).mono fun e w' ⟨he, hb⟩ => ?_
        rcases he with rfl | rfl
        · exact ⟨_, rfl, hK.1 β w' (Ext.refl _ _) (Nat.le_refl _) (Stay.refl _) (hh.below hb) hfs trivial⟩
        · exact ⟨_, rfl, hK.2 β w' (Ext.refl _ _) (Nat.le_refl _) (Stay.refl _) (hh.below hb) hfs trivial⟩
      · cases ht
    · cases ht
  · cases ht
/-! ### What a law calls -/
def spL : SpcT := orT spShort (orT spNewB (orT (spMethK cs6 clAnn) (orT (spMethSK cs6 clDec) (orT (spMethK cs6 clSync) (orT (spMethK cs6 clReq) (orT (spMethK cs6 clResp) (orT (spMethSK cs6 clSend) (orT (spGet 5 clState) (orT (spGet 5 clPar) (orT (ofSpc (sumSpec sumsB)) spM))))))))))
noncomputable def callL : Caller := callH Tryd.prog (tabGl tabs2 0) okF spL noKeep 80 30
theorem callL_ok {ρ : Env} {w : World} (h : Law2 ρ.fn) (hT : TabsIn tabs2 w) : CallOk Tryd.prog ρ w (fun _ => False) (tabGl tabs2 0) callL := by
  have hk : ∀ w', Kept w (fun _ => False) w' → TabsIn tabs2 w' := fun w' hk => TabsIn.kept hT hk
  have t := h.law.top
  have o := h.law.ok
  exact callH_run mixed okF_ok (orT_ok (spShort_ok hT) (orT_ok (spNewB_ok h hk) (orT_ok (spMethK_ok o t.ann hk) (orT_ok (spMethSK_ok o t.dec hk) (orT_ok (spMethK_ok o t.sync hk) (orT_ok (spMethK_ok o t.req hk) (orT_ok (spMethK_ok o t.resp hk) (orT_ok (spMethSK_ok o t.send hk) (orT_ok (spGet_ok t.stat hk) (orT_ok (spGet_ok t.par hk) (orT_ok (ofSpc_ok (sumSpec_ok (sumsOf_ok fun s hs => by
    obtain rfl : s = kB := by simpa using hs
    exact SmOk.congr (ρ := envOf nm99 []) (ρ' := ρ) (s := kB) h.chk (sm99 (envOf nm99 []) rfl w _)))) (spM_ok t.hi.mid.low hk (sums41_all hk)))))))))))) ) 30
end Go.Proofs.YtfcpmapfhgibpaaDoor
