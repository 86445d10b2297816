/- What TopPorts wants: the tables of packages dataset and port, the examples, Less as a name, data sets as numbers. -/
import Derived.Test.YtedeecnibmgobaaDoorOktopd
import Derived.Test.YtedeecnibmgobaaDoorMo
import Derived.Test.YtedeecnibmgobaaDoorTie
import Derived.Test.YtedeecnibmgobaaDoorCards
import Derived.Test.YtedeecnibmgobaaDoorMg
import Derived.Test.YtedeecnibmgobaaDoorDcLaw
import Derived.Test.YtedeecnibmgobaaDoorDsP
import Derived.Test.YtedeecnibmgobaaDoorPortLaw
namespace Go.Proofs.YtedeecnibmgobaaDoor
open Go Go.ChangeShapes Go.WideShapes Go.ChangeAt Go.RowKit SX
open DsLaw (I64 U64 lt)
set_option linter.unusedVariables false

def cellsF : List Value := [.int .i64 0, .int .i64 1, .int .i64 2, .int .i64 3, .int .i64 4, .int .i64 5, .int .i64 6, .int .i64 7, .int .i64 8, .int .i64 9, .int .i64 10, .int .i64 7, .int .i64 10, .int .i64 8]
def tabsT : Tabs := [(1, cellsF)]
theorem tabsT_nd : (tabsT.map (·.1)).Nodup := by decide
def noKeep : FuncId → Nat → List Nat := fun _ _ => []
set_option maxRecDepth 1000000 in
theorem awake_tree : ((callF Tryd.prog (tabGl tabsT 0) okF (fun _ _ => none) noKeep 80 30 11 [] (tabHp tabsT) []).all isTrue) = true := by kernel_rfl
theorem awake_sx (w : World) (h : TabsIn tabsT w) : Calls Tryd.prog 11 #[] w fun e w' => e = .returned (.bool true) ∧ Below w.heap.size w w' :=
  pays_tab (ρ := envOf (fun _ _ _ => 0) []) (args := []) tabsT tabsT_nd h mixed okF_ok (sums_none _ _ _ _) trivial rfl (T.all_holds awake_tree)
def laidL : List (String × DataW Unit) := [("timesync/port.table", Rows.laid_timesync_port_table), ("timesync/dataset.fields", Rows.laid_timesync_dataset_fields)]
theorem own : ownKnob Tryd.prog.godebug = none := by kernel_rfl
theorem laidOut : laidOutB Tryd.prog = true := by kernel_rfl
theorem gTab : Tryd.prog.globalNamed "timesync/dataset.fields" = some 1 := by kernel_rfl
theorem tTab : (Tryd.prog.globals[1]?).map (·.type) = some 47 := by kernel_rfl
theorem okTab : arrOK Tryd.prog 3 47 = true := by kernel_rfl
theorem gTabP : Tryd.prog.globalNamed "timesync/port.table" = some 0 := by kernel_rfl
theorem tTabP : (Tryd.prog.globals[0]?).map (·.type) = some 41 := by kernel_rfl
theorem okTabP : arrOK Tryd.prog 3 41 = true := by kernel_rfl
def cellsP : List Value := (flatD (H := Unit) Rows.laid_timesync_port_table).getD []
theorem dTabP : flatD (H := Unit) Rows.laid_timesync_port_table = some cellsP := by kernel_rfl
def tabs2 : Tabs := [(1, cellsF), (0, cellsP)]
theorem tabs2_nd : (tabs2.map (·.1)).Nodup := by decide
theorem tabs_one {w : World} (h : TabsIn tabs2 w) : TabsIn tabsT w := fun p hp => h p (by
  obtain rfl : p = (1, cellsF) := by simpa [tabsT] using hp
  exact List.mem_cons_self ..)
theorem dTab : flatD (H := Unit) Rows.laid_timesync_dataset_fields = some cellsF := by kernel_rfl
theorem tabs_of_laid {W : World} (h : laidMetH Tryd.prog laidL W) : TabsIn tabs2 W := by
  rw [MakeChecks.laidMetH_plain _ _ _ (by kernel_rfl)] at h
  intro p hp i v hv
  simp only [tabs2, List.mem_cons, List.not_mem_nil, or_false] at hp
  rcases hp with rfl | rfl
  · exact laid_cell h (List.mem_cons_of_mem _ (List.mem_cons_self ..)) gTab tTab okTab dTab i v hv
  · exact laid_cell h (List.mem_cons_self ..) gTabP tTabP okTabP dTabP i v hv
/-- The door's own heap meets the condition. -/
theorem door_met (os : Os) (args : Array Value) : laidMetH Tryd.prog laidL ((World.doorLaid Tryd.prog 400 os).forCall (fun _ _ => 0) ⟨#[], args, []⟩).memory :=
  laidMetH_of_parts3 (fuel := 8) (laidMet_of_run' 8 (by kernel_rfl) (by kernel_rfl)) (by kernel_rfl) (by kernel_rfl)

/-! ### Data sets as numbers -/
def i1 : Sh := .one (.int .i64)
def dsLk : List Lk := [.int .i64, .int .i64, .int .i64, .int .i64, .int .i64, .int .u64, .int .i64, .int .u64, .int .i64, .int .u64, .int .i64]
def dsSh : Sh := .agg dsLk
def portLk : List Lk := .bool :: dsLk
def dsOf (l : List Int) : DS := ⟨l.headD 0, l.tail.headD 0, l.tail.tail.headD 0, l.tail.tail.tail.headD 0, l.tail.tail.tail.tail.headD 0, l.tail.tail.tail.tail.tail.headD 0, l.tail.tail.tail.tail.tail.tail.headD 0, l.tail.tail.tail.tail.tail.tail.tail.headD 0, l.tail.tail.tail.tail.tail.tail.tail.tail.headD 0, l.tail.tail.tail.tail.tail.tail.tail.tail.tail.headD 0, l.tail.tail.tail.tail.tail.tail.tail.tail.tail.tail.headD 0⟩
def dsV (d : DS) : Value := (.agg #[.int .i64 d.p1, .int .i64 d.cls, .int .i64 d.acc, .int .i64 d.vr, .int .i64 d.p2, .int .u64 d.gm, .int .i64 d.steps, .int .u64 d.snd, .int .i64 d.sp, .int .u64 d.rcv, .int .i64 d.rp])
theorem val_ds (l : List Int) : dsSh.val l = dsV (dsOf l) := rfl
theorem wfI {n : Int} (h : (Lit.int .i64 n).wf = true) : I64 n := by
  have := (wf_iff .i64 n).1 h
  unfold I64
  simpa [IntKind.min, IntKind.max, IntKind.bits, IntKind.signed] using this
theorem wfU {n : Int} (h : (Lit.int .u64 n).wf = true) : U64 n := by
  have := (wf_iff .u64 n).1 h
  unfold U64
  simpa [IntKind.min, IntKind.max, IntKind.bits, IntKind.signed] using this
theorem ok_ds {l : List Int} (h : dsSh.fits l) : DsLaw.Ok (dsOf l) := by
  obtain ⟨h0, h1, h2, h3, h4, h5, h6, h7, h8, h9, h10, _⟩ := h
  exact ⟨wfI h0, wfI h1, wfI h2, wfI h3, wfI h4, wfU h5, wfI h6, wfU h7, wfI h8, wfU h9, wfI h10⟩
theorem fields_tabs {w : World} (h : TabsIn tabsT w) : Fields w := by
  intro i hi
  have hc : cellsF[i]? = some (.int .i64 (DsLaw.F i : Nat)) := by
    match i, hi with
    | 0, _ => rfl | 1, _ => rfl | 2, _ => rfl | 3, _ => rfl | 4, _ => rfl | 5, _ => rfl | 6, _ => rfl | 7, _ => rfl | 8, _ => rfl | 9, _ => rfl | 10, _ => rfl | 11, _ => rfl | 12, _ => rfl | 13, _ => rfl
    | n + 14, h => exact absurd h (by omega)
  exact h _ (List.mem_cons_self ..) i _ hc

/-! ### Less as a name -/
def lessA : Sm := ⟨10, 3, [dsSh, dsSh], [.one .bool]⟩
def lessN (_ : Nat) (ns : List Int) : Int := if lt (dsOf ns) (dsOf (ns.drop 11)) then 1 else 0
theorem lessA_ok (ρ : Env) (h : ρ.fn 3 = lessN) {w : World} (ht : TabsIn tabsT w) : SmOk Tryd.prog ρ w (fun _ => False) lessA := fun ns hns => by
  refine ⟨⟨trivial, trivial⟩, fun w' hk => ?_⟩
  have hc := less_any (dsOf ns) (dsOf (ns.drop 11)) (ok_ds hns.1) (ok_ds hns.2.1) w' (fields_tabs (TabsIn.kept ht hk))
  have hv : packV (shVals lessA.rs (fnVals (ρ.fn lessA.name) ns (shSize lessA.rs) 0)) = .bool (decide (lt (dsOf ns) (dsOf (ns.drop 11)))) := by
    show Value.bool (decide (ρ.fn 3 0 ns ≠ 0)) = _
    rw [h]
    unfold lessN
    split <;> simp_all
  rw [hv]
  exact hc
def sumsL : Sums := sumsA 11 [lessA]
theorem sumsL_ok (ρ : Env) (h : ρ.fn 3 = lessN) {w : World} (ht : TabsIn tabsT w) : SumsOk Tryd.prog ρ w (fun _ => False) sumsL :=
  sumsA_ok (fun w' hk => awake_sx w' (TabsIn.kept ht hk)) fun s hs => by
    obtain rfl : s = lessA := by simpa using hs
    exact lessA_ok ρ h ht

/-! ### Ports in an array, and what names stand for -/
def rdA (A : Nat → Nat → Int → Int) (c : Nat) (i : Int) : Int := (kOf c).wrap (A 0 c i)
def hasA (A : Nat → Nat → Int → Int) (i : Nat) : Bool := decide (rdA A 3 i ≠ 0)
def setA (A : Nat → Nat → Int → Int) (i : Nat) : DS := ⟨rdA A 11 i, rdA A 19 i, rdA A 27 i, rdA A 35 i, rdA A 43 i, rdA A 55 i, rdA A 59 i, rdA A 71 i, rdA A 75 i, rdA A 87 i, rdA A 91 i⟩
def namesD (own : DS) (A : Nat → Nat → Int → Int) (n : Nat) : Nat → Nat → List Int → Int := fun f =>
  if f = 3 then lessN else if f = 10 then fun _ ns => DcLaw.least (hasA A) (setA A) (ns.headD 0).toNat
  else if f = 11 then fun _ ns => DcLaw.code own (hasA A) (setA A) n (ns.headD 0).toNat
  else if f = 12 then fun _ ns => if DcLaw.better own (hasA A) (setA A) (ns.headD 0).toNat = true then 1 else 0
  else if f = 13 then fun _ ns => if DcLaw.equal own (hasA A) (setA A) (ns.headD 0).toNat = true then 1 else 0
  else if f = 20 then fun _ ns => PortLaw.nxt (ns.headD 0) (ns.tail.headD 0) false
  else if f = 21 then fun _ ns => if ns.headD 0 = 1 ∨ ns.headD 0 = 2 ∨ ns.headD 0 = 3 then 1 else 0
  else fun _ _ => 0
def lt0 (a b : E) : E := .bin .lt .i64 a b
def eq0 (a b : E) : E := .bin .eq .i64 a b
def litN (n : Nat) : E := .lit (Int.ofNat n)
def hasE (i : E) : E := .rd 0 3 i
def setE (i : E) : List E := [.rd 0 11 i, .rd 0 19 i, .rd 0 27 i, .rd 0 35 i, .rd 0 43 i, .rd 0 55 i, .rd 0 59 i, .rd 0 71 i, .rd 0 75 i, .rd 0 87 i, .rd 0 91 i]
def lessE (a b : List E) : E := .app 3 0 (a ++ b)
def leastE (k : E) : E := .app 10 0 [k]
def codeE (i : Nat) : E := .app 11 0 [litN i]
def betE (k : E) : E := .app 12 0 [k]
def equE (k : E) : E := .app 13 0 [k]
section
variable {ρ : Env} {own : DS} {A : Nat → Nat → Int → Int} {n : Nat}
theorem fsOk_nil : FsOk ρ [] ↔ True := ⟨fun _ => trivial, fun _ p hp => by cases hp⟩
theorem fsOk_cons {c : E} {b : Bool} {l : Fs} : FsOk ρ ((c, b) :: l) ↔ (c.ev ρ ≠ 0 ↔ b = true) ∧ FsOk ρ l :=
  ⟨fun h => ⟨h (c, b) (List.mem_cons_self ..), fun p hp => h p (List.mem_cons_of_mem _ hp)⟩, fun h p hp => by
    rcases List.mem_cons.1 hp with rfl | hp
    · exact h.1
    · exact h.2 p hp⟩
theorem lt0_ev (a b : E) : (lt0 a b).ev ρ ≠ 0 ↔ a.ev ρ < b.ev ρ := by
  show (if a.ev ρ < b.ev ρ then (1 : Int) else 0) ≠ 0 ↔ _
  split <;> simp [*]
theorem eq0_ev (a b : E) : (eq0 a b).ev ρ ≠ 0 ↔ a.ev ρ = b.ev ρ := by
  show (if a.ev ρ = b.ev ρ then (1 : Int) else 0) ≠ 0 ↔ _
  split <;> simp [*]
theorem litN_ev (k : Nat) : (litN k).ev ρ = k := rfl
theorem lit_ev (k : Int) : (E.lit k).ev ρ = k := rfl
theorem var_ev (k : Nat) : (E.var k).ev ρ = ρ.v k := rfl
theorem rd_ev (hA : ρ.arr = A) (c : Nat) (i : E) : (E.rd 0 c i).ev ρ = rdA A c (i.ev ρ) := by subst hA; rfl
theorem hasE_ev (hA : ρ.arr = A) {i : E} {k : Nat} (hk : i.ev ρ = k) : (hasE i).ev ρ ≠ 0 ↔ hasA A k = true := by
  unfold hasE hasA
  rw [rd_ev hA, hk]
  simp
theorem setE_ev (hA : ρ.arr = A) {i : E} {k : Nat} (hk : i.ev ρ = k) (l : List Int) : dsOf (E.evs ρ (setE i) ++ l) = setA A k := by
  simp only [setE, E.evs, rd_ev hA, hk, List.cons_append, List.nil_append, dsOf, List.headD_cons, List.tail_cons, setA]
theorem lessE_ev (hf : ρ.fn = namesD own A n) {a b : List E} {x y : DS} (hx : ∀ l, dsOf (E.evs ρ a ++ l) = x) (hy : ∀ l, dsOf (E.evs ρ b ++ l) = y) (ha : a.length = 11) : (lessE a b).ev ρ ≠ 0 ↔ lt x y := by
  show ρ.fn 3 0 (E.evs ρ (a ++ b)) ≠ 0 ↔ _
  rw [hf]
  show (if lt (dsOf (E.evs ρ (a ++ b))) (dsOf ((E.evs ρ (a ++ b)).drop 11)) then (1 : Int) else 0) ≠ 0 ↔ _
  rw [evs_app, hx, List.drop_append_of_le_length (by rw [evs_len, ha]; omega), List.drop_of_length_le (by rw [evs_len, ha]; omega), List.nil_append]
  have := hy []
  rw [List.append_nil] at this
  rw [this]
  split <;> simp [*]
theorem leastE_ev (hf : ρ.fn = namesD own A n) {k : E} {m : Nat} (hk : k.ev ρ = m) : (leastE k).ev ρ = DcLaw.least (hasA A) (setA A) m := by
  show ρ.fn 10 0 [k.ev ρ] = _
  rw [hf, hk]
  rfl
theorem codeE_ev (hf : ρ.fn = namesD own A n) (i : Nat) : (codeE i).ev ρ = DcLaw.code own (hasA A) (setA A) n i := by
  show ρ.fn 11 0 [Int.ofNat i] = _
  rw [hf]
  rfl
theorem betE_ev (hf : ρ.fn = namesD own A n) {k : E} {m : Nat} (hk : k.ev ρ = m) : (betE k).ev ρ = if DcLaw.better own (hasA A) (setA A) m = true then 1 else 0 := by
  show ρ.fn 12 0 [k.ev ρ] = _
  rw [hf, hk]
  rfl
theorem equE_ev (hf : ρ.fn = namesD own A n) {k : E} {m : Nat} (hk : k.ev ρ = m) : (equE k).ev ρ = if DcLaw.equal own (hasA A) (setA A) m = true then 1 else 0 := by
  show ρ.fn 13 0 [k.ev ρ] = _
  rw [hf, hk]
  rfl
end
end Go.Proofs.YtedeecnibmgobaaDoor
