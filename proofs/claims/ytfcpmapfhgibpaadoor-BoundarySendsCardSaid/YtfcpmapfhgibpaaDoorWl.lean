/- Tables and examples of layer 41; Less, Best. -/
import Derived.Test.YtfcpmapfhgibpaaDoorWf
import Derived.Test.YtfcpmapfhgibpaaDoorWd
import Derived.Test.YtfcpmapfhgibpaaDoorTie
import Derived.Test.YtfcpmapfhgibpaaDoorCards
import Derived.Test.YtfcpmapfhgibpaaDoorWk
namespace Go.Proofs.YtfcpmapfhgibpaaDoor
open Go Go.ChangeShapes Go.WideShapes Go.ChangeAt Go.RowKit SX
set_option linter.unusedVariables false

def cellsF : List Value := [.int .i64 0, .int .i64 1, .int .i64 2, .int .i64 3, .int .i64 4, .int .i64 5, .int .i64 6, .int .i64 7, .int .i64 8, .int .i64 9, .int .i64 10, .int .i64 7, .int .i64 10, .int .i64 8]
def tabsT : Tabs := [(0, cellsF)]
theorem tabsT_nd : (tabsT.map (·.1)).Nodup := by decide
def laidL : List (String × DataW Unit) := [("timesync/port.table", Rows.laid_timesync_port_table), ("timesync/dataset.fields", Rows.laid_timesync_dataset_fields)]
theorem own : ownKnob Tryd.prog.godebug = none := by kernel_rfl
theorem laidOut : laidOutB Tryd.prog = true := by kernel_rfl
theorem gTab : Tryd.prog.globalNamed "timesync/dataset.fields" = some 0 := by kernel_rfl
theorem tTab : (Tryd.prog.globals[0]?).map (·.type) = some 114 := by kernel_rfl
theorem okTab : arrOK Tryd.prog 3 114 = true := by kernel_rfl
theorem gTabP : Tryd.prog.globalNamed "timesync/port.table" = some 1 := by kernel_rfl
theorem tTabP : (Tryd.prog.globals[1]?).map (·.type) = some 140 := by kernel_rfl
theorem okTabP : arrOK Tryd.prog 3 140 = true := by kernel_rfl
def cellsP : List Value := (flatD (H := Unit) Rows.laid_timesync_port_table).getD []
theorem dTabP : flatD (H := Unit) Rows.laid_timesync_port_table = some cellsP := by kernel_rfl
def tabs2 : Tabs := [(0, cellsF), (1, cellsP)]
theorem tabs2_nd : (tabs2.map (·.1)).Nodup := by decide
theorem tabs_one {w : World} (h : TabsIn tabs2 w) : TabsIn tabsT w := fun p hp => h p (by
  obtain rfl : p = (0, cellsF) := by simpa [tabsT] using hp
  exact List.mem_cons_self ..)
theorem dTab : flatD (H := Unit) Rows.laid_timesync_dataset_fields = some cellsF := by kernel_rfl
theorem tabs_of_laid {W : World} (h : laidMetH Tryd.prog laidL W) : TabsIn tabs2 W := by
  rw [MakeChecks.laidMetH_plain _ _ _ (by kernel_rfl)] at h
  intro p hp i v hv
  simp only [tabs2, List.mem_cons, List.not_mem_nil, or_false] at hp
  rcases hp with rfl | rfl
  · exact laid_cell h (List.mem_cons_of_mem _ (List.mem_cons_self ..)) gTab tTab okTab dTab i v hv
  · exact laid_cell h (List.mem_cons_self ..) gTabP tTabP okTabP dTabP i v hv
/-- The door's own heap meets the condition. -/
theorem door_met (os : Os) (args : Array Value) : laidMetH Tryd.prog laidL ((World.doorLaid Tryd.prog 400 os).forCall (fun _ _ => 0) ⟨#[], args, []⟩).memory :=
  laidMetH_of_parts3 (fuel := 8) (laidMet_of_run' 8 (by kernel_rfl) (by kernel_rfl)) (by kernel_rfl) (by kernel_rfl)

set_option maxRecDepth 1000000 in
theorem awake_tree : ((callF Tryd.prog (tabGl tabs2 0) okF (fun _ _ => none) noKeep 200 60 7 [] (tabHp tabs2) []).all isTrue) = true := by kernel_rfl
set_option maxRecDepth 1000000 in
theorem awake_sx (w : World) (h : TabsIn tabs2 w) : Calls Tryd.prog 7 #[] w fun e w' => e = .returned (.bool true) ∧ Below w.heap.size w w' :=
  pays_tab (ρ := envOf (fun _ _ _ => 0) []) (args := []) tabs2 tabs2_nd h mixed okF_ok (sums_none _ _ _ _) trivial rfl (T.all_holds awake_tree)
def i1 : Sh := .one (.int .i64)
def ptSh : Sh := .agg [.int .i64, .int .i64, .int .i64, .int .i64, .int .u64, .int .i64, .int .i64, .int .i64, .int .i64, .int .i64, .int .u64, .int .i64, .int .i64, .int .i64, .int .i64, .int .i64, .int .i64, .int .i64, .int .u64, .int .i64, .int .i64]
def names41 : Nat → Nat → List Int → Int := fun _ _ _ => 0
def sums41 : Sums := sumsA 7 []
set_option maxRecDepth 1000000 in
theorem sums41_ok (ρ : Env) {w : World} (ht : TabsIn tabs2 w) : SumsOk Tryd.prog ρ w (fun _ => False) sums41 :=
  sumsA_ok (fun w' hk => awake_sx w' (TabsIn.kept ht hk)) fun s hs => by cases hs
def nobSh : List Sh := [i1, i1, ptSh]
set_option maxRecDepth 1000000 in
theorem nob_tree : ((callF Tryd.prog (tabGl tabs2 0) okF sums41 noKeep 80 30 5 (varShs nobSh 0) (tabHp tabs2) (([] : Fs) ++ varFacts nobSh 0)).all isTrueF) = true := by kernel_rfl
set_option maxRecDepth 1000000 in
theorem nob_pays (ns : List Int) (hf : shFits nobSh ns) (w : World) (ht : TabsIn tabs2 w) : Calls Tryd.prog 5 (shVals nobSh ns).toArray w fun e w' => e = .returned (.bool true) ∧ Below w.heap.size w w' :=
  pays_cases (F := names41) tabs2 tabs2_nd mixed okF_ok ht (fun ns => sums41_ok _ ht) .leaf (CT.mk0 nob_tree) ns hf
end Go.Proofs.YtfcpmapfhgibpaaDoor
namespace Go.Proofs.YtfcpmapfhgibpaaDoor
open Go Go.ChangeShapes Go.WideShapes Go.ChangeAt Go.RowKit SX Frm Frn
set_option linter.unusedVariables false

def dsSh : Sh := .agg [.int .i64, .int .i64, .int .i64, .int .i64, .int .i64, .int .u64, .int .i64, .int .u64, .int .i64, .int .u64, .int .i64]
def dsLk : List Lk := [.int .i64, .int .i64, .int .i64, .int .i64, .int .i64, .int .u64, .int .i64, .int .u64, .int .i64, .int .u64, .int .i64]
end Go.Proofs.YtfcpmapfhgibpaaDoor
namespace Go.Proofs.YtfcpmapfhgibpaaDoor
set_option maxRecDepth 100000
open Go Go.RowKit SX Frm Frn
set_option linter.unusedVariables false
set_option linter.unusedSimpArgs false

/-! ### Less as a name -/
theorem ok_ds {d : List Int} (h : fitsK ks11 d) : DsLaw.Ok (dsOf d) := by
  obtain ⟨h0, _, h1, _, h2, _, h3, _, h4, _, h5, _, h6, _, h7, _, h8, _, h9, _, h10, _⟩ := h
  have i : ∀ n : Int, (Lit.int .i64 n).wf = true → DsLaw.I64 n := fun n h => by
    have := (wf_iff .i64 n).1 h
    unfold DsLaw.I64
    simpa [IntKind.min, IntKind.max, IntKind.bits, IntKind.signed] using this
  have u : ∀ n : Int, (Lit.int .u64 n).wf = true → DsLaw.U64 n := fun n h => by
    have := (wf_iff .u64 n).1 h
    unfold DsLaw.U64
    simpa [IntKind.min, IntKind.max, IntKind.bits, IntKind.signed] using this
  exact ⟨i _ h0, i _ h1, i _ h2, i _ h3, i _ h4, u _ h5, i _ h6, u _ h7, i _ h8, u _ h9, i _ h10⟩
theorem fields_tabs {w : World} (h : TabsIn tabs2 w) : Fields w := by
  intro i hi
  have hc : cellsF[i]? = some (.int .i64 (DsLaw.F i : Nat)) := by
    match i, hi with
    | 0, _ => rfl | 1, _ => rfl | 2, _ => rfl | 3, _ => rfl | 4, _ => rfl | 5, _ => rfl | 6, _ => rfl | 7, _ => rfl | 8, _ => rfl | 9, _ => rfl | 10, _ => rfl | 11, _ => rfl | 12, _ => rfl | 13, _ => rfl
    | n + 14, h => exact absurd h (by omega)
  exact h _ (List.mem_cons_self ..) i _ hc
def spLess : Spc := fun f args hp fs => match args with
  | [.agg a, .agg b] => if f = 14 then (match takeK ks11 a, takeK ks11 b with
    | some x, some y => some ⟨.bool (lessE (canons fs x) (canons fs y)), hp, fs⟩
    | _, _ => none) else none
  | _ => none
theorem spLess_ok {ρ : Env} {w0 : World} {M : Nat → Prop} {gl : Gl} (hf : Low ρ.fn) (hT : ∀ w', Kept w0 M w' → TabsIn tabs2 w') : SpecOk Tryd.prog ρ w0 M gl spLess := fun f args hp fs o h β w hh hfs ha hg => by
  unfold spLess at h
  split at h
  · rename_i a b
    split at h
    · rename_i hfe
      subst hfe
      split at h
      · rename_i x y hx hy
        obtain rfl := Option.some.inj h
        obtain ⟨a1, a2, a3⟩ := takeK_spec (β := β) hx ha.1
        obtain ⟨b1, b2, b3⟩ := takeK_spec (β := β) hy ha.2.1
        have hargs : SV.evs ρ β [.agg a, .agg b] = [.agg (dsVals (E.evs ρ x)).toArray, .agg (dsVals (E.evs ρ y)).toArray] := by
          simp only [SV.evs, SV.ev, a1, b1]; rfl
        rw [hargs]
        refine (less_any (dsOf (E.evs ρ x)) (dsOf (E.evs ρ y)) (ok_ds a2) (ok_ds b2) w (fields_tabs (hT w hh.kept))).mono fun e w' ⟨he, hb⟩ => ⟨β, Ext.refl _ _, Nat.le_refl _, Stay.refl _, hh.below hb, hfs, trivial, ?_⟩
        rw [he]
        show Ending.returned (.bool (decide (DsLaw.lt (dsOf (E.evs ρ x)) (dsOf (E.evs ρ y))))) = Ending.returned (.bool (decide ((lessE _ _).ev ρ ≠ 0)))
        congr 2
        have hl : ∀ (z : List E) (h : z.length = ks11.length), (canons fs z).length = 11 := fun z h => by unfold canons; rw [List.length_map, h]; rfl
        have := lessE_ev hf (hl x a3) (hl y b3)
        rw [canons_ev hfs, canons_ev hfs] at this
        have e2 : ltB (E.evs ρ x) (E.evs ρ y) = decide (DsLaw.lt (dsOf (E.evs ρ x)) (dsOf (E.evs ρ y))) := rfl
        by_cases hl : DsLaw.lt (dsOf (E.evs ρ x)) (dsOf (E.evs ρ y))
        · rw [decide_eq_true hl, decide_eq_true (this.2 (by rw [e2]; exact decide_eq_true hl))]
        · rw [decide_eq_false hl, decide_eq_false (fun h => hl (of_decide_eq_true (e2 ▸ this.1 h)))]
      · cases h
    · cases h
  · cases h
/-! ### The run of Best, of records as an object -/
def spBin : SpcT := orT spF (ofSpc spLess)
def bestHp : Hp := ⟨1, fun _ => ⟨true, .obj 1 [.var 0]⟩⟩
def qfs (i : Nat) : List E := (List.range 11).map fun j => qfE (.var 0) (.var 1) i j
def bestF (fs : Fs) : Nat → List Nat → Option Nat
  | b, [] => some b
  | b, i :: l => match decideE fs (lessE (qfs i) (qfs b)) with
    | some true => bestF fs i l
    | some false => bestF fs b l
    | none => none
def numQ (fs : Fs) : Option Nat := (List.range 6).find? fun m => decideE fs (eq0 (qnE (.var 0) (.var 1)) (litN m)) == some true
def zeroS : List SV := dsS fun _ => .lit 0
def bestEnd (o : Out) : Bool :=
  (match o.hp.at 0 with
    | some ⟨true, .obj 1 [.var 0]⟩ => true
    | _ => false) && (match numQ o.fs with
    | some 0 => SV.fit o.fs (fun i => .var i) id o.hp.n (.tuple [.agg zeroS, .bool (.lit 0)]) o.v
    | some (m + 1) => (match bestF o.fs 0 (List.range' 1 m) with
      | some i => SV.fit o.fs (fun i => .var i) id o.hp.n (.tuple [.agg (dsS (qfE (.var 0) (.var 1) i)), .bool (.lit 1)]) o.v
      | none => false)
    | none => false)
noncomputable def bestT : T Out := callH Tryd.prog [] okF spBin noKeep 80 30 38 [.ptr 0 0, .int .i64 (.var 1)] bestHp [rngV 1]
set_option maxRecDepth 1000000 in
theorem best_run : bestT.all bestEnd = true := by kernel_rfl
end Go.Proofs.YtfcpmapfhgibpaaDoor
namespace Go.Proofs.YtfcpmapfhgibpaaDoor
set_option maxRecDepth 100000
open Go Go.RowKit SX Frm Frn
set_option linter.unusedVariables false
set_option linter.unusedSimpArgs false

def rdD (i : E) : List E := [.rd 0 19 i, .rd 0 27 i, .rd 0 35 i, .rd 0 43 i, .rd 0 51 i, .rd 0 63 i, .rd 0 67 i, .rd 0 79 i, .rd 0 83 i, .rd 0 95 i, .rd 0 99 i]
def rdAt (i : E) : E := .rd 0 11 i
def okF0 (x : E) (d : List E) (t : E) : E := eq0 (badE x d t) (.lit 0)
def hearR (x : E) (d : List E) (t : E) : Rule := ⟨[(okF0 x d t, true)], [(eq0 (nowE (hearE x d t)) t, true)]⟩
def sameE (a b : E) : E := .bin .eq .u64 a b
def ge32 (st : E) : E := eq0 (lt0 st (.lit 32)) (.lit 0)
def wrongR (x : E) (d : List E) (t st s r : E) : List Rule := [⟨[(lt0 t (nowE x), true)], [(okF0 x d t, false)]⟩, ⟨[(lt0 (.lit 1125899906842624) t, true)], [(okF0 x d t, false)]⟩, ⟨[(sameE s r, true)], [(okF0 x d t, false)]⟩, ⟨[(lt0 st (.lit 32), false)], [(okF0 x d t, false)]⟩,
  ⟨[(lt0 t (nowE x), false), (lt0 (.lit 1125899906842624) t, false), (sameE s r, false), (lt0 st (.lit 32), true)], [(okF0 x d t, true)]⟩,
  ⟨[(eq0 (.lit 0) (ge32 st), false)], [(okF0 x d t, false)]⟩,
  ⟨[(lt0 t (nowE x), false), (lt0 (.lit 1125899906842624) t, false), (sameE s r, false), (eq0 (.lit 1) (ge32 st), false)], [(okF0 x d t, true)]⟩]
theorem bad_iff (s : FS) (d : List Int) (t : Int) : bad s d t = 0 ↔ ¬ (t < max 0 s.now ∨ maxSim < t ∨ d.getD 7 0 = d.getD 9 0 ∨ 32 ≤ d.getD 6 0) := by
  unfold bad
  by_cases c0 : t < 0 ∨ maxSim < t
  · rw [if_pos c0]
    refine ⟨fun h => (by cases h), fun h => absurd ?_ h⟩
    rcases c0 with c | c
    · exact .inl (by omega)
    · exact .inr (.inl c)
  · rw [if_neg c0]
    by_cases c1 : t < s.now
    · rw [if_pos c1]
      exact ⟨fun h => (by cases h), fun h => absurd (.inl (by omega)) h⟩
    · rw [if_neg c1]
      by_cases c2 : d.getD 7 0 = d.getD 9 0
      · rw [if_pos c2]
        exact ⟨fun h => (by cases h), fun h => absurd (.inr (.inr (.inl c2))) h⟩
      · rw [if_neg c2]
        by_cases c3 : 32 ≤ d.getD 6 0
        · rw [if_pos c3]
          exact ⟨fun h => (by cases h), fun h => absurd (.inr (.inr (.inr c3))) h⟩
        · rw [if_neg c3]
          refine ⟨fun _ => ?_, fun _ => rfl⟩
          rintro (h | h | h | h)
          · omega
          · exact c0 (.inr h)
          · exact c2 h
          · exact c3 h
section
variable {ρ : Env}
theorem fsOk_one {c : E} {b : Bool} : SX.FsOk ρ [(c, b)] ↔ (c.ev ρ ≠ 0 ↔ b = true) := by rw [fsOk_cons, fsOk_nil]; exact ⟨fun h => h.1, fun h => ⟨h, trivial⟩⟩
theorem tru {p : Prop} : (p ↔ true = true) ↔ p := ⟨fun h => h.2 rfl, fun h => ⟨fun _ => rfl, fun _ => h⟩⟩
theorem fls {p : Prop} : (p ↔ false = true) ↔ ¬ p := ⟨fun h hp => Bool.noConfusion (h.1 hp), fun h => ⟨fun hp => absurd hp h, fun e => Bool.noConfusion e⟩⟩
theorem okF0_ev (hf : Low ρ.fn) {x t : E} {d : List E} (h : d.length = 11) : (okF0 x d t).ev ρ ≠ 0 ↔ bad (dec (x.ev ρ)) (E.evs ρ d) (t.ev ρ) = 0 := by
  unfold okF0 eq0
  rw [eqk_ev, badE_ev hf h]; rfl
theorem hearR_ok (hf : Low ρ.fn) {x t : E} {d : List E} (h : d.length = 11) : RuleOk ρ (hearR x d t) := by
  intro hp
  have hp : SX.FsOk ρ [(okF0 x d t, true)] := hp
  rw [fsOk_one, tru, okF0_ev hf h] at hp
  show SX.FsOk ρ [(eq0 _ _, true)]
  rw [fsOk_one, tru]
  unfold eq0
  rw [eqk_ev, nowE_ev hf, hearE_ev hf h, dec_code, hear_ok hp]
  obtain ⟨b1, b2, b3, b4⟩ := bad_zero hp
  show max 0 (t.ev ρ) = _
  omega
theorem ge32_ev (st : E) : (ge32 st).ev ρ = if st.ev ρ < 32 then 0 else 1 := by
  show (if (if st.ev ρ < 32 then (1 : Int) else 0) = 0 then (1 : Int) else 0) = _
  split <;> simp
theorem wrongR_ok (hf : Low ρ.fn) {x t st s r : E} {d : List E} (h : d.length = 11) (h6 : (E.evs ρ d).getD 6 0 = st.ev ρ) (h7 : (E.evs ρ d).getD 7 0 = s.ev ρ) (h9 : (E.evs ρ d).getD 9 0 = r.ev ρ) : ∀ q ∈ wrongR x d t st s r, RuleOk ρ q := by
  have key := bad_iff (dec (x.ev ρ)) (E.evs ρ d) (t.ev ρ)
  rw [h6, h7, h9] at key
  unfold maxSim at key
  have en := nowE_ev hf x
  have e1 : (lt0 t (nowE x)).ev ρ ≠ 0 ↔ t.ev ρ < max 0 (dec (x.ev ρ)).now := by rw [lt0_ev, en]
  have e2 : (lt0 (.lit 1125899906842624) t).ev ρ ≠ 0 ↔ 1125899906842624 < t.ev ρ := lt0_ev _ _
  have e3 : (sameE s r).ev ρ ≠ 0 ↔ s.ev ρ = r.ev ρ := eqk_ev _ _ _
  have e4 : (lt0 st (.lit 32)).ev ρ ≠ 0 ↔ st.ev ρ < 32 := lt0_ev _ _
  have e5 : (eq0 (.lit 0) (ge32 st)).ev ρ ≠ 0 ↔ st.ev ρ < 32 := by
    unfold eq0
    rw [eqk_ev, ge32_ev, lit_ev]
    split <;> simp <;> omega
  have e6 : (eq0 (.lit 1) (ge32 st)).ev ρ ≠ 0 ↔ ¬ st.ev ρ < 32 := by
    unfold eq0
    rw [eqk_ev, ge32_ev, lit_ev]
    split <;> simp <;> omega
  have e0 := okF0_ev hf (x := x) (t := t) h
  intro q hq
  simp only [wrongR, List.mem_cons, List.not_mem_nil, or_false] at hq
  rcases hq with rfl | rfl | rfl | rfl | rfl | rfl | rfl <;> simp only [RuleOk, fsOk_cons, fsOk_nil, iff_true, Bool.false_eq_true, iff_false, and_true, e0, e1, e2, e3, e4, e5, e6, key]
  · exact fun a b => b (.inl a)
  · exact fun a b => b (.inr (.inl a))
  · exact fun a b => b (.inr (.inr (.inl a)))
  · exact fun a b => b (.inr (.inr (.inr (by omega))))
  · rintro ⟨a1, a2, a3, a4⟩ (b | b | b | b)
    · exact a1 b
    · exact a2 b
    · exact a3 b
    · omega
  · exact fun a b => b (.inr (.inr (.inr (by omega))))
  · rintro ⟨a1, a2, a3, a4⟩ (b | b | b | b)
    · exact a1 b
    · exact a2 b
    · exact a3 b
    · exact a4 (by omega)
theorem newR_ok (hf : Low ρ.fn) (a b : E) : RuleOk ρ ⟨[], [(eq0 (nowE (newE a b)) (.lit 0), true)]⟩ := fun _ => by
  rw [fsOk_one, tru]
  unfold eq0
  rw [eqk_ev, nowE_ev hf, newE_ev hf, dec_code]
  rfl
end
end Go.Proofs.YtfcpmapfhgibpaaDoor
namespace Go.Proofs.YtfcpmapfhgibpaaDoor
set_option maxRecDepth 100000
open Go Go.RowKit SX Frm Frn
set_option linter.unusedVariables false
set_option linter.unusedSimpArgs false

def bestV (q : List (List Int)) : Value := .tuple #[.agg (dsVals (bestD q)).toArray, .bool (decide (q ≠ []))]
theorem bestF_spec {ρ : Env} (hf0 : Low ρ.fn) {fs : Fs} (hf : SX.FsOk ρ fs) {q : List (List Int)} (hq : ∀ i, i < q.length → E.evs ρ (qfs i) = q.getD i []) : ∀ (l : List Nat) (b r : Nat), b < q.length → (∀ i ∈ l, i < q.length) → bestF fs b l = some r →
    r = bestI (fun i b => ltB (q.getD i []) (q.getD b [])) b l ∧ r < q.length
  | [], b, r, hb, _, h => by obtain rfl := Option.some.inj h; exact ⟨rfl, hb⟩
  | i :: l, b, r, hb, hl, h => by
    have hi := hl i (List.mem_cons_self ..)
    have key := lessE_ev (ρ := ρ) hf0 (a := qfs i) (b := qfs b) rfl rfl
    rw [hq i hi, hq b hb] at key
    unfold bestF at h
    split at h
    · rename_i hd
      have h1 := of_decide_eq_true (decideE_spec hf hd)
      have h2 : ltB (q.getD i []) (q.getD b []) = true := key.1 h1
      have := bestF_spec hf0 hf hq l i r hi (fun j hj => hl j (List.mem_cons_of_mem _ hj)) h
      simp only [bestI, h2, if_true]
      exact this
    · rename_i hd
      have h1 := of_decide_eq_false (decideE_spec hf hd)
      have h2 : ltB (q.getD i []) (q.getD b []) = false := by
        cases hz : ltB (q.getD i []) (q.getD b []) with
        | false => rfl
        | true => exact absurd (key.2 hz) h1
      have := bestF_spec hf0 hf hq l b r hb (fun j hj => hl j (List.mem_cons_of_mem _ hj)) h
      simp only [bestI, h2, Bool.false_eq_true, if_false]
      exact this
    · cases h
theorem spBin_ok {ρ : Env} {w0 : World} {M : Nat → Prop} {gl : Gl} (hf : Low ρ.fn) (hT : ∀ w', Kept w0 M w' → TabsIn tabs2 w') : SpecOkT Tryd.prog ρ w0 M gl spBin := orT_ok (spF_ok hf) (ofSpc_ok (spLess_ok hf hT))
section
variable {s : FS} {b : Nat} {φ : Nat → Prop} {w w' : World}
theorem best_any (h : ObA s b φ w) {t : Int} (ht : (Lit.int .i64 t).wf = true) (hT : ∀ w', Kept w φ w' → TabsIn tabs2 w') :
    Calls Tryd.prog 38 #[ptrV b, .int .i64 t] w fun e w' => e = .returned (bestV (qual s t)) ∧ Turns s b φ w w' := by
  have hOb : Ob 1 [code s] b φ w := (⟨s, rfl, h⟩ : ∃ s', code s' = code s ∧ ObA s' b φ w)
  have key0 : ∀ (k : Nat) (x : Box), bestHp.at k = some x → k = 0 ∧ x = ⟨true, .obj 1 [.var 0]⟩ := fun k x hk => by
    obtain ⟨h1, h2⟩ := Hp.at_some.1 hk
    exact ⟨by have : k < 1 := h1; omega, h2.symm⟩
  have hh : Heap (envOf FN [code s, t]) w φ (fun _ => (b, 0)) bestHp w := by
    refine ⟨fun k x hk => ?_, fun j k x y hj hk hx _ _ => ?_, fun k x hk _ hx => ?_, fun k x hk => ?_, Kept.refl w φ, fun k x hk hx => ?_, fun _ => φ, fun k x q es hk e => ?_, fun k x hk _ i hi => .inl hi, fun j k x y hj hk _ hjk => ?_⟩
    · obtain ⟨rfl, rfl⟩ := key0 k x hk; trivial
    · obtain ⟨rfl, rfl⟩ := key0 j x hj; cases hx
    · obtain ⟨rfl, rfl⟩ := key0 k x hk; cases hx
    · obtain ⟨rfl, rfl⟩ := key0 k x hk; trivial
    · obtain ⟨rfl, rfl⟩ := key0 k x hk; cases hx
    · obtain ⟨rfl, rfl⟩ := key0 k x hk
      cases e
      exact hOb
    · exact absurd ((key0 j x hj).1.trans (key0 k y hk).1.symm) hjk
  have hF : SX.FsOk (envOf FN [code s, t]) [rngV 1] := by
    rw [fsOk_one]
    have := (wf_iff .i64 t).1 ht
    show (if IntKind.i64.min ≤ t ∧ t ≤ IntKind.i64.max then (1 : Int) else 0) ≠ 0 ↔ _
    rw [if_pos this]
    exact ⟨fun _ => rfl, fun _ => by decide⟩
  have hB := best_run
  unfold bestT at hB
  have ha : SV.oks (envOf FN [code s, t]) bestHp.n [.ptr 0 0, .int .i64 (.var 1)] := ⟨Nat.lt_succ_self 0, ht, trivial⟩
  have hC := callH_run (gl := []) (keep := noKeep) (fuel := 80) mixed okF_ok (spBin_ok (ρ := envOf FN [code s, t]) (w0 := w) (M := φ) (gl := []) (fun _ _ => rfl) hT) 30
  have hD := hC 38 [.ptr 0 0, .int .i64 (.var 1)] bestHp [rngV 1] (fun _ => (b, 0)) w (fun x w' => x = bestV (qual s t) ∧ Turns s b φ w w') hh hF ha (fun _ h => by cases h)
  have ea : SV.evs (envOf FN [code s, t]) (fun _ => (b, 0)) [.ptr 0 0, .int .i64 (.var 1)] = [ptrV b, .int .i64 t] := rfl
  rw [ea] at hD
  refine (hD (T.holds_mono (fun o ho β' w' hx hl hst hh' hf _ => ?_) (T.all_holds hB))).2.mono fun x w' ⟨y, he, h1, h2⟩ => ⟨by rw [he, h1], h2⟩
  unfold bestEnd at ho
  rw [Bool.and_eq_true] at ho
  obtain ⟨o1, o2⟩ := ho
  have hturn : Turns s b φ w w' := by
    split at o1
    · rename_i hat
      obtain ⟨φ2, ho2⟩ := hh'.objs
      have hb0 : β' 0 = (b, 0) := hx 0 (by decide)
      have h1 := ho2.has 0 _ 1 [.var 0] hat rfl
      obtain ⟨s', hs', h2⟩ : ∃ s', code s' = code s ∧ ObA s' (β' 0).1 (φ2 0) w' := h1
      obtain rfl := code_inj hs'
      rw [hb0] at h2
      exact ⟨φ2 0, h2, fun i hi => ho2.own 0 _ hat rfl i hi, hh'.kept⟩
    · cases o1
  refine ⟨?_, hturn⟩
  have hfit := qual_fits h.1 t
  have hqn : ∀ m, numQ o.fs = some m → (qual s t).length = m := fun m hm => by
    have h1 := List.find?_some hm
    have h2 : decideE o.fs (eq0 (qnE (.var 0) (.var 1)) (litN m)) = some true := by simpa using h1
    have h3 := (eqk_ev (ρ := envOf FN [code s, t]) .i64 (qnE (.var 0) (.var 1)) (litN m)).1 (of_decide_eq_true (decideE_spec hf h2))
    rw [qnE_ev (fun _ _ => rfl)] at h3
    have h4 : ((qual (dec (code s)) t).length : Int) = m := h3
    rw [dec_code] at h4
    omega
  have hqf : ∀ i j, (qfE (.var 0) (.var 1) i j).ev (envOf FN [code s, t]) = ((qual s t).getD i []).getD j 0 := fun i j => by
    rw [qfE_ev (fun _ _ => rfl)]
    show ((qual (dec (code s)) t).getD i []).getD j 0 = _
    rw [dec_code]
  have hq : ∀ i, i < (qual s t).length → E.evs (envOf FN [code s, t]) (qfs i) = (qual s t).getD i [] := fun i hi => by
    have hlen : ((qual s t).getD i []).length = 11 := fits_len (hfit _ (getD_mem hi))
    have e1 : ∀ js : List Nat, E.evs (envOf FN [code s, t]) (js.map fun j => qfE (.var 0) (.var 1) i j) = js.map fun j => ((qual s t).getD i []).getD j 0 := fun js => by
      induction js with
      | nil => rfl
      | cons j js ih => simp only [List.map_cons, E.evs, ih, hqf]
    unfold qfs
    rw [e1, range11_self hlen]
  split at o2
  · rename_i hm
    have h0 : qual s t = [] := List.length_eq_zero_iff.1 (hqn 0 hm)
    obtain ⟨e1, _⟩ := SV.fit_spec (β := β') (m := o.hp.n) hf _ _ o2
    rw [e1, envSub_var, h0]
    rfl
  · rename_i m hm
    have hm' := hqn (m + 1) hm
    split at o2
    · rename_i i hi
      obtain ⟨e1, _⟩ := SV.fit_spec (β := β') (m := o.hp.n) hf _ _ o2
      obtain ⟨b1, b2⟩ := bestF_spec (fun _ _ => rfl) hf hq (List.range' 1 m) 0 i (by omega) (fun j hj => by have := List.mem_range'.1 hj; omega) hi
      have hne : qual s t ≠ [] := fun e => by rw [e] at hm'; cases hm'
      have hbd : bestD (qual s t) = (qual s t).getD i [] := by
        unfold bestD bestK
        rw [if_neg hne, hm', b1]; rfl
      rw [e1, envSub_var]
      show Value.tuple #[.agg (SV.evs _ _ (dsS (qfE (.var 0) (.var 1) i))).toArray, .bool true] = _
      rw [dsS_ev fun j hj => hqf i j]
      unfold bestV
      rw [hbd, decide_eq_true hne]
    · cases o2
  · cases o2
end
/-! ### At a law's calls -/
/-- What is kept by a part is kept by all. -/
theorem Kept.nest {w0 w w' : World} {M φ : Nat → Prop} (h : Kept w0 M w) (hφ : ∀ i, φ i → M i ∨ w0.heap.size ≤ i) (h' : Kept w φ w') : Kept w0 M w' :=
  ⟨h'.os.trans h.os, h'.tape.trans h.tape, h'.output.trans h.output, Nat.le_trans h.size h'.size, fun i hi hn => (h'.block i (Nat.lt_of_lt_of_le hi h.size) fun hp => (hφ i hp).elim hn fun hl => by omega).trans (h.block i hi hn)⟩
def spBest : SpcT := fun f args hp fs => match args with
  | [.ptr k 0, .int .i64 t] => if f = 38 then (match objOf 1 hp k with
    | some x => some (.ok ⟨.tuple [.agg (dsS (bstE (canon fs x) (canon fs t))), .bool (bokE (canon fs x) (canon fs t))], hp.put k ⟨true, .obj 1 [canon fs x]⟩, fs⟩)
    | none => none) else none
  | _ => none
theorem spBest_ok {ρ : Env} {w0 : World} {M : Nat → Prop} {gl : Gl} (hf : Low ρ.fn) (hT0 : ∀ w', Kept w0 M w' → TabsIn tabs2 w') : SpecOkT Tryd.prog ρ w0 M gl spBest := fun f args hp fs t ht β w K hh hfs ha hg hK => by
  unfold spBest at ht
  split at ht
  · rename_i k tm
    split at ht
    · rename_i hfe
      subst hfe
      split at ht
      · rename_i x hx
        obtain rfl := Option.some.inj ht
        obtain ⟨φ, ho⟩ := hh.objs
        obtain ⟨hob, hc⟩ := obj_recs ho hx
        have hT : ∀ w', Kept w (φ k) w' → TabsIn tabs2 w' := fun w' hk => hT0 w' (Kept.nest hh.kept (fun i hi => ho.own k _ (objOf_spec hx) rfl i hi) hk)
        have e1 : ∀ j, (bstE (canon fs x) (canon fs tm) j).ev ρ = (bestD (qual (dec (x.ev ρ)) (tm.ev ρ))).getD j 0 := fun j => by rw [bstE_ev hf, canon_ev hfs, canon_ev hfs]
        have e2 := bokE_ev hf (canon fs x) (canon fs tm)
        rw [canon_ev hfs, canon_ev hfs] at e2
        have hval : ∀ β', (SV.tuple [.agg (dsS (bstE (canon fs x) (canon fs tm))), .bool (bokE (canon fs x) (canon fs tm))]).ev ρ β' = bestV (qual (dec (x.ev ρ)) (tm.ev ρ)) := fun β' => by
          show Value.tuple #[.agg (SV.evs ρ β' (dsS (bstE (canon fs x) (canon fs tm)))).toArray, .bool (decide ((bokE (canon fs x) (canon fs tm)).ev ρ ≠ 0))] = _
          rw [dsS_ev fun j _ => e1 j]
          unfold bestV
          rw [show decide ((bokE (canon fs x) (canon fs tm)).ev ρ ≠ 0) = decide (qual (dec (x.ev ρ)) (tm.ev ρ) ≠ []) from decide_eq_decide.2 e2]
        have hok : SV.oks ρ hp.n (dsS (bstE (canon fs x) (canon fs tm))) := by
          by_cases hq : qual (dec (x.ev ρ)) (tm.ev ρ) = []
          · refine dsS_ok (d := d0) (fun j hj => ?_) d0_fits
            rw [e1, hq]
            show ([] : List Int).getD j 0 = _
            match j, hj with
            | 0, _ => rfl | 1, _ => rfl | 2, _ => rfl | 3, _ => rfl | 4, _ => rfl | 5, _ => rfl | 6, _ => rfl | 7, _ => rfl | 8, _ => rfl | 9, _ => rfl | 10, _ => rfl
          · refine dsS_ok (d := bestD (qual (dec (x.ev ρ)) (tm.ev ρ))) (fun j hj => e1 j) ?_
            unfold bestD
            rw [if_neg hq]
            refine qual_fits hob.1 _ _ (getD_mem ?_)
            have hbl : ∀ (less : Nat → Nat → Bool) (n : Nat) (l : List Nat) (b : Nat), b < n → (∀ i ∈ l, i < n) → bestI less b l < n := fun less n l => by
              induction l with
              | nil => exact fun b hb _ => hb
              | cons i l ih =>
                intro b hb hl
                simp only [bestI]
                refine ih _ ?_ fun j hj => hl j (List.mem_cons_of_mem _ hj)
                split
                · exact hl i (List.mem_cons_self ..)
                · exact hb
            have hp := List.length_pos_iff.2 hq
            exact hbl _ _ _ _ hp fun i hi => by have := List.mem_range'.1 hi; omega
        refine (best_any hob ha.2.1 hT).mono fun e w' ⟨he, hTu⟩ => ⟨_, ?_, hK β w' (Ext.refl _ _) (Nat.le_refl _) (stay_put (objOf_spec hx)) (turn_out hh ho hx hTu ?_) hfs ⟨hok, trivial, trivial⟩⟩
        · rw [he, ← hval β]
        · rw [canon_ev hfs, hc]
      · cases ht
    · cases ht
  · cases ht
def spM : SpcT := orT spF (orT spBest (orT (ofSpc spLess) (ofSpc (sumSpec sums41))))
theorem spM_ok {ρ : Env} {w0 : World} {M : Nat → Prop} {gl : Gl} (hf : Low ρ.fn) (hT : ∀ w', Kept w0 M w' → TabsIn tabs2 w') (hs : SumsOk Tryd.prog ρ w0 M sums41) : SpecOkT Tryd.prog ρ w0 M gl spM :=
  orT_ok (spF_ok hf) (orT_ok (spBest_ok hf hT) (orT_ok (ofSpc_ok (spLess_ok hf hT)) (ofSpc_ok (sumSpec_ok hs))))
end Go.Proofs.YtfcpmapfhgibpaaDoor
