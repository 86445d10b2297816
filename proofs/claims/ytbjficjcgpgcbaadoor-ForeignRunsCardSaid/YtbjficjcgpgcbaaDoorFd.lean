/- Records of package foreign: a method's run, by its ways. -/
import Derived.Test.YtbjficjcgpgcbaaDoorFc
namespace Go.Proofs.YtbjficjcgpgcbaaDoor
open Go Go.RowKit SX Frm Frn
set_option linter.unusedVariables false
set_option linter.unusedSimpArgs false

/-! ### What is wanted behind a call -/
inductive Wv where
  | old (i : Nat) | new (ts : List E)
structure Wr where
  d : Nat → E
  v : Wv
def rdKl (hp : Hp) : Nat := match (hp.box 0).c with
  | .cells [_, _, _, .slice k _ _ _] _ _ => k
  | _ => 1
def rdPtr : SV → Nat
  | .ptr k _ => k
  | _ => 0
def rdKms (hp : Hp) : List Nat := match (hp.box 0).c with
  | .cells [_, _, _, .slice k _ _ _] _ _ => match (hp.box k).c with
    | .cells c _ _ => c.map rdPtr
    | _ => []
  | _ => []
def lastK : List SV → Nat
  | [] => 0
  | [.slice k _ _ _] => k
  | _ :: l => lastK l
def rdTk (hp : Hp) (km : Nat) : Nat := match (hp.box km).c with
  | .cells c _ _ => lastK c
  | _ => 0
def Wr.pr (hp : Hp) (km : Nat) (w : Wr) : Pr := ⟨km, w.d, match w.v with
  | .old i => .old i
  | .new ts => .new (rdTk hp km) ts⟩
def zipP (hp : Hp) : List Nat → List Wr → List Pr
  | k :: ks, w :: ws => w.pr hp k :: zipP hp ks ws
  | _, _ => []
def mkPic (hp : Hp) (ws : List Wr) : Pic := ⟨rdKl hp, zipP hp (rdKms hp) ws⟩
def Wr.view (ρ : Env) (l : List RV) (w : Wr) : RV := ((List.range 11).map fun j => (w.d j).ev ρ, match w.v with
  | .old i => (l.getD i rec0).2
  | .new ts => E.evs ρ ts)
theorem zipP_view (ρ : Env) (l : List RV) (hp : Hp) : ∀ (ks : List Nat) (ws : List Wr), ks.length = ws.length → (zipP hp ks ws).map (Pr.view ρ l) = ws.map (Wr.view ρ l)
  | [], [], _ => rfl
  | [], _ :: _, h => by simp at h
  | _ :: _, [], h => by simp at h
  | k :: ks, w :: ws, h => by
    have ih := zipP_view ρ l hp ks ws (by simpa using h)
    simp only [zipP, List.map_cons, ih]
    congr 1
    obtain ⟨d, v⟩ := w
    cases v <;> rfl
def endA (n : Nat) (f : Option (Nat × Nat)) (e : E) (ws : Out → List Wr) (v : Out → SV) (o : Out) : Bool :=
  (SV.fit o.fs (fun i => .var i) id o.hp.n (v o) o.v && (v o).flat && Nat.beq (rdKms o.hp).length (ws o).length && picOk n f e (mkPic o.hp (ws o)) o.hp o.fs) || noWay o.fs
noncomputable def runG (sp : Spc) (g : Nat) (args : List SV) (n : Nat) (f : Option (Nat × Nat)) (p : Fs) : T Out := callG Tryd.prog [] okF sp noKeep 80 30 g args (hpA n f) (p ++ factsA n f)
section
variable {F : Nat → Nat → List Int → Int} {d : List Int} {t win need now : Int} {l : List RV} {ts : List (Nat × Nat)} {tm : List Int} {b lb lc n : Nat} {ms : List Nat} {w w' : World} {f : Option (Nat × Nat)} {e : E}
/-- A method that may change the records. -/
theorem chg_A {sp : Spc} {g : Nat} {args : List SV} {p : Fs} {ws : Out → List Wr} {v : Out → SV} (hP : PackOk l tm win need now n f) (h : LayA win need now l b lb lc ms ts w) (h0 : l = [] → lb = w.heap.size) (hd : fitsK ks11 d) (ht : (Lit.int .i64 t).wf = true)
    (hsp : SpecOk Tryd.prog (envR F d t win need now l ts tm) w (fun i => ∃ k, k < 2 + n + n ∧ (boxA n f k).rw = true ∧ (bmA n f b lb lc ms ts k).1 = i) [] sp) (hp : SX.FsOk (envR F d t win need now l ts tm) p) (hargs : SV.oks (envR F d t win need now l ts tm) (2 + n + n) args) (hr : (runG sp g args n f p).all (endA n f e ws v) = true) :
    Calls Tryd.prog g (SV.evs (envR F d t win need now l ts tm) (bmA n f b lb lc ms ts) args).toArray w fun x w' => ∃ o, SX.FsOk (envR F d t win need now l ts tm) o.fs ∧ x = .returned ((v o).ev (envR F d t win need now l ts tm) β0) ∧
      (∃ lb' lc' ms' ts', LayA win need (e.ev (envR F d t win need now l ts tm)) ((ws o).map (Wr.view (envR F d t win need now l ts tm) l)) b lb' lc' ms' ts' w' ∧ ∀ i ∈ blksA ((ws o).map (Wr.view (envR F d t win need now l ts tm) l)) b lb' ms' ts', i ∈ blksA l b lb ms ts ∨ w.heap.size ≤ i) ∧
      Kept w (fun i => i ∈ blksA l b lb ms ts) w' := by
  refine ((callG_run (gl := []) (keep := noKeep) (fuel := 80) mixed okF_ok hsp 30 g args (hpA n f) (p ++ factsA n f) _ w (fun x w' => ∃ o, SX.FsOk (envR F d t win need now l ts tm) o.fs ∧ x = (v o).ev (envR F d t win need now l ts tm) β0 ∧
      (∃ lb' lc' ms' ts', LayA win need (e.ev (envR F d t win need now l ts tm)) ((ws o).map (Wr.view (envR F d t win need now l ts tm) l)) b lb' lc' ms' ts' w' ∧ ∀ i ∈ blksA ((ws o).map (Wr.view (envR F d t win need now l ts tm) l)) b lb' ms' ts', i ∈ blksA l b lb ms ts ∨ w.heap.size ≤ i) ∧
      Kept w (fun i => i ∈ blksA l b lb ms ts) w') (pack_A hP h h0) (fsOk_app hp (factsA_ok hP h hd ht)) hargs (fun _ h => by cases h)
    (T.holds_mono (fun o ho β' w' hx hl hs hh hf _ => ?_) (T.all_holds hr))).2).mono fun x w' ⟨y, he, o, h1, h2, h3⟩ => ⟨o, h1, by rw [he, h2], h3⟩
  unfold endA at ho
  rw [Bool.or_eq_true] at ho
  rcases ho with ho | ho
  rotate_left
  · exact (noWay_spec hf ho).elim
  simp only [Bool.and_eq_true, beq_iff, decide_eq_true_eq] at ho
  obtain ⟨⟨⟨o1, o2⟩, o3⟩, o4⟩ := ho
  obtain ⟨e1, _⟩ := SV.fit_spec (β := β') (m := o.hp.n) hf _ _ o1
  obtain ⟨u1, u2⟩ := unpack_A hP h h0 hh hx hs hf o4
  have ev : (mkPic o.hp (ws o)).rs.map (Pr.view (envR F d t win need now l ts tm) l) = (ws o).map (Wr.view (envR F d t win need now l ts tm) l) := zipP_view _ _ _ _ _ o3
  rw [ev] at u1 u2
  refine ⟨o, hf, ?_, ⟨_, _, _, _, u1, u2⟩, ⟨hh.kept.os, hh.kept.tape, hh.kept.output, hh.kept.size, fun i hi hn => hh.kept.block i hi fun hM => hn (maskA h hP.len hM)⟩⟩
  rw [e1, SV.ev_flat β0 (fun k => β' (id k)) (v o) o2]
  rfl
theorem fsOk_nil {ρ : Env} : SX.FsOk ρ [] ↔ True := ⟨fun _ => trivial, fun _ p hp => by cases hp⟩
theorem fsOk_cons {ρ : Env} {c : E} {b : Bool} {l : Fs} : SX.FsOk ρ ((c, b) :: l) ↔ (c.ev ρ ≠ 0 ↔ b = true) ∧ SX.FsOk ρ l :=
  ⟨fun h => ⟨h (c, b) (List.mem_cons_self ..), fun p hp => h p (List.mem_cons_of_mem _ hp)⟩, fun h p hp => by
    rcases List.mem_cons.1 hp with rfl | hp
    · exact h.1
    · exact h.2 p hp⟩
end
def lt0 (a b : E) : E := .bin .lt .i64 a b
def eq0 (a b : E) : E := .bin .eq .i64 a b
def litN (n : Nat) : E := .lit (Int.ofNat n)
theorem lt0_ev {ρ : Env} (a b : E) : (lt0 a b).ev ρ ≠ 0 ↔ a.ev ρ < b.ev ρ := by
  show (if a.ev ρ < b.ev ρ then (1 : Int) else 0) ≠ 0 ↔ _
  split <;> simp [*]
theorem eqk_ev {ρ : Env} (k : IntKind) (a b : E) : (E.bin .eq k a b).ev ρ ≠ 0 ↔ a.ev ρ = b.ev ρ := by
  show (if a.ev ρ = b.ev ρ then (1 : Int) else 0) ≠ 0 ↔ _
  split <;> simp [*]
def argsH (g : Nat → E) : List SV := [.ptr 0 0, .agg (dsS g), .int .i64 (.var 11)]
/-- The message is taken. -/
def goodF (g : Nat → E) : Fs := [(lt0 (.var 11) (.lit 0), false), (lt0 (.lit 1125899906842624) (.var 11), false), (lt0 (.var 11) (.var 14), false), (.bin .eq .u64 (g 7) (g 9), false), (lt0 (g 6) (.lit 32), true)]
def eqOrg (g : Nat → E) (i : Nat) : E := .bin .band .i64 (.bin .eq .u64 (recVar i 7) (g 7)) (.bin .eq .i64 (recVar i 8) (g 8))
def notF (g : Nat → E) (n : Nat) : Fs := (List.range n).map fun i => (eqOrg g i, false)
def oldW (i : Nat) : Wr := ⟨recVar i, .old i⟩
def newW : Wr := ⟨.var, .new [.var 11]⟩
def dropIf (k : Nat) (l : List E) : List E := bif Nat.blt 8 k then l.tail else l
/-- A message of record i's origin. -/
def ofRec (i j : Nat) : E := bif Nat.beq j 7 then recVar i 7 else bif Nat.beq j 8 then recVar i 8 else .var j
/-- Record i, of k times, hears the message. -/
def foundW (i k j : Nat) : Wr := bif Nat.beq j i then ⟨ofRec i, .new (dropIf (k + 1) ((List.range k).map tmVar ++ [.var 11]))⟩ else oldW j
noncomputable def foundB (n i k : Nat) : Bool := (runG noSpec 13 (argsH (ofRec i)) n (some (i, k)) (goodF (ofRec i) ++ notF (ofRec i) i)).all (endA n (some (i, k)) (.var 11) (fun _ => (List.range n).map (foundW i k)) (fun _ => .int .i64 (.lit 0)))
/-- No record has the origin, there is room. -/
noncomputable def freshB (n : Nat) : Bool := (runG noSpec 13 (argsH .var) n none (goodF .var ++ notF .var n)).all (endA n none (.var 11) (fun _ => (List.range n).map oldW ++ [newW]) (fun _ => .int .i64 (.lit 0)))
def lateE (i : Nat) : E := .rd i 3 (.bin .sub .i64 (recVar i 11) (.lit 1))
/-- Record j is the oldest. -/
def oldF (j : Nat) : Fs := (List.range 5).flatMap fun i => bif Nat.beq i j then [] else bif Nat.blt i j then [(lt0 (lateE j) (lateE i), true)] else [(lt0 (lateE i) (lateE j), false)]
noncomputable def dropB (j : Nat) : Bool := (runG noSpec 13 (argsH .var) 5 none (goodF .var ++ (notF .var 5 ++ oldF j))).all (endA 5 none (.var 11) (fun _ => ((List.range 5).eraseIdx j).map oldW ++ [newW]) (fun _ => .int .i64 (.lit 0)))
def upTo (m : Nat) (p : Nat → Bool) : Bool := (List.range (m + 1)).all p
theorem upTo_spec {m : Nat} {p : Nat → Bool} (h : upTo m p = true) {i : Nat} (hi : i ≤ m) : p i = true := List.all_eq_true.1 h i (List.mem_range.2 (by omega))
/-! ### Messages that are refused: of the records the head alone is read -/
def errF4 : Fs := [(lt0 (.var 11) (.lit 0), false), (lt0 (.lit 1125899906842624) (.var 11), false), (lt0 (.var 11) (.var 14), false), (.bin .eq .u64 (.var 7) (.var 9), false), (lt0 (.var 6) (.lit 32), false)]
def errF : Nat → Fs
  | 0 => [(lt0 (.var 11) (.lit 0), true)]
  | 1 => [(lt0 (.var 11) (.lit 0), false), (lt0 (.lit 1125899906842624) (.var 11), true)]
  | 2 => [(lt0 (.var 11) (.lit 0), false), (lt0 (.lit 1125899906842624) (.var 11), false), (lt0 (.var 11) (.var 14), true)]
  | 3 => [(lt0 (.var 11) (.lit 0), false), (lt0 (.lit 1125899906842624) (.var 11), false), (lt0 (.var 11) (.var 14), false), (.bin .eq .u64 (.var 7) (.var 9), true)]
  | _ => errF4
def headB (lv : Value) : Nat → Box := fun _ => ⟨false, .cells [.int .i64 (.var 12), .int .i64 (.var 13), .int .i64 (.var 14), .raw lv] 54 0⟩
def isLitV (c : Int) (o : Out) : Bool := match o.v with
  | .int .i64 (.lit x) => x == c
  | _ => false
noncomputable def errB (j : Nat) (c : Int) (lv : Value) : Bool := (callG Tryd.prog [] okF noSpec noKeep 80 30 13 (argsH .var) ⟨1, headB lv⟩ (errF j)).all (isLitV c)
end Go.Proofs.YtbjficjcgpgcbaaDoor
