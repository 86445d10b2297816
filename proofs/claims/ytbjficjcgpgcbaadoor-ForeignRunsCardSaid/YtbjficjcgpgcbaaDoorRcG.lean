/- Records of the reference of package foreign: recent, Forget, Qualified, Len, New: their runs. -/
import Derived.Test.YtbjficjcgpgcbaaDoorGa
import Derived.Deep.Light
import Derived.Lib.Hide
import Derived.WalkLawsBesides
import Derived.Outline
import Derived.Deep.QuietTactic
import Derived.Test.YtbjficjcgpgcbaaDoorRcC
namespace Go.Proofs.YtbjficjcgpgcbaaDoor
open Go Go.RowKit SX Frm Frn
set_option linter.unusedVariables false
set_option linter.unusedSimpArgs false

theorem recentB_any {b tb cap o : Nat} {win now a : Int} {ts : List Int} {w : World} (h0 : w.cell? ⟨b, 0, none⟩ = some (.int .i64 win)) (h2 : w.cell? ⟨b, 3, none⟩ = some (.int .i64 now)) (ht : ∀ i : Nat, i < ts.length → w.cell? ⟨tb, o + (i * 12 + 11), none⟩ = some (.int .i64 (ts.getD i 0)))
    (hlen : ts.length ≤ 8) (hw : 1 ≤ win ∧ win ≤ maxSim) (hn : 0 ≤ now ∧ now ≤ maxSim) (ha : (Lit.int .i64 a).wf = true) :
    Calls Tryd.prog 31 #[.pointer (some ⟨b, 0, none⟩), .slice (some ⟨tb, o, none⟩) ts.length cap, .int .i64 a] w fun e w' => e = .returned (.int .i64 ((ts.filter fun x => decide (max a now - win < x)).length : Int)) ∧ Below w.heap.size w w' := by
  go_enter Tryd.func31, Tryd.ntmps31
  go_wp2_with fail
  go_loopw [7, 8] (fun v i wr => ∃ k : Nat, k ≤ ts.length ∧ i = .int .i64 k ∧ v = .int .i64 (((ts.take k).filter fun x => decide (max a now - win < x)).length : Int) ∧ Below w.heap.size w wr) (fun _ i _ => ts.length - (intOf i).toNat)
  case atStart => exact ⟨0, Nat.zero_le _, rfl, by simp, Below.refl _ _⟩
  case round =>
    obtain ⟨k, hk, rfl, rfl, hb⟩ := hrel
    have hmx : IntKind.i64.wrap ((if a < now then now else a) - win) = max a now - win := by
      have ha' := (wf_iff .i64 a).1 ha
      have i1 : IntKind.i64.min = -9223372036854775808 := by decide
      have i2 : IntKind.i64.max = 9223372036854775807 := by decide
      rw [i1, i2] at ha'
      unfold maxSim at *
      have e : (if a < now then now else a) = max a now := by rw [Int.max_def]; split <;> split <;> omega
      rw [e]
      exact wrap_fit ⟨by rw [i1]; omega, by rw [i2]; omega⟩
    by_cases hlt : k < ts.length
    · have hbl : ∀ p : Addr, (hp : p.block < w.heap.size) → wr.cell? p = w.cell? p := fun p hp => hb.cell hp
      have c0 : wr.cell? ⟨b, 0, none⟩ = some (.int .i64 win) := (hbl ⟨b, 0, none⟩ (block_lt_of_cell h0)).trans h0
      have c2 : wr.cell? ⟨b, 3, none⟩ = some (.int .i64 now) := (hbl ⟨b, 3, none⟩ (block_lt_of_cell h2)).trans h2
      have hg : ts.getD k 0 = ts[k] := by simp [hlt]
      have ct : wr.cell? ⟨tb, o + k * 12 + 11, none⟩ = some (.int .i64 ts[k]) := by
        rw [← hg, show o + k * 12 + 11 = o + (k * 12 + 11) by omega]
        exact (hbl ⟨tb, o + (k * 12 + 11), none⟩ (block_lt_of_cell (ht k hlt))).trans (ht k hlt)
      have hstep : ((ts.take (k + 1)).filter fun x => decide (max a now - win < x)).length = ((ts.take k).filter fun x => decide (max a now - win < x)).length + if max a now - win < ts[k] then 1 else 0 := by
        rw [List.take_succ_eq_append_getElem hlt, List.filter_append, List.length_append]
        congr 1
        by_cases hc : max a now - win < ts[k] <;> simp [hc]
      have hle : ((ts.take k).filter fun x => decide (max a now - win < x)).length ≤ 8 := Nat.le_trans (List.length_filter_le _ _) (by rw [List.length_take]; omega)
      obtain ⟨q, hq⟩ : ∃ q, q = ((ts.take k).filter fun x => decide (max a now - win < x)).length := ⟨_, rfl⟩
      rw [← hq] at hle hstep ⊢
      have HB := Lib.hid hb
      have HS := Lib.hid hstep
      clear h0 h2 ht hstep hq hb hbl hg
      by_cases hc : max a now - win < ts[k]
      · go_wp2_with fail
        go_quiet (fail)
        go_wp2
        go_roundw
        case rel => exact ⟨k + 1, by omega, by go_num, by rw [HS.out, if_pos hc]; go_num, below_drawn HB.out _⟩
        case measure => simp [intOf]; omega
      · go_wp2_with fail
        go_quiet (fail)
        go_wp2
        go_roundw
        case rel => exact ⟨k + 1, by omega, by go_num, by rw [HS.out, if_neg (by omega), Nat.add_zero], below_drawn HB.out _⟩
        case measure => simp [intOf]; omega
    · have hk' : k = ts.length := by omega
      subst hk'
      rw [List.take_length]
      go_wp2
      go_ret
      exact ⟨rfl, hb⟩
end Go.Proofs.YtbjficjcgpgcbaaDoor
namespace Go.Proofs.YtbjficjcgpgcbaaDoor
open Go Go.RowKit SX Frm Frn
set_option linter.unusedVariables false
set_option linter.unusedSimpArgs false

def FRB (s : FS) : Nat → Nat → List Int → Int := fun f _ ns => if f = 30 then (recent s (ns.tail.headD 0) (s.l.getD (ns.headD 0).toNat []) : Int) else 0
def isArrM (hp : Hp) (k i : Nat) : Bool :=
  match hp.at k with
  | some ⟨_, .arr a ks (.var v)⟩ => Nat.beq a i && Nat.beq v (15 + 2 * i) && lksEq ks msgLk
  | _ => false
def spRecB (n : Nat) : Spc := fun f args hp fs =>
  match args with
  | [.ptr 0 0, .inp k 12 0 l0 len cap, .int .i64 a] => if f = 31 ∧ 2 ≤ k ∧ k < 2 + n ∧ cellFit hp fs 0 0 (.int .i64 (.var 12)) = true ∧ cellFit hp fs 0 3 (.int .i64 (.var 14)) = true ∧ len.beq (lenB' (k - 2)) = true ∧ isArrM hp k (k - 2) = true then
      some ⟨.int .i64 (recE (k - 2) (canon fs a)), hp, fs⟩ else none
  | _ => none
section
variable {d : List Int} {t : Int} {s : FS} {ts : Tb} {n : Nat} {w0 w : World} {M : Nat → Prop} {gl : Gl}
theorem recent_times (s : FS) (a : Int) (r : List Msg) : recent s a r = ((r.map Msg.t).filter fun x => decide (max a s.now - s.win < x)).length := by
  unfold recent
  rw [List.filter_map, List.length_map]
  rfl
theorem spRecB_ok (hs : RsOk s) (hl : s.l.length = n) : SpecOk Tryd.prog (envB (FRB s) d t s ts) w0 M gl (spRecB n) := fun f args hp fs o h β w hh hfs ha hg => by
  unfold spRecB at h
  split at h
  · rename_i k l0 len cap a
    split at h
    · rename_i hc
      obtain ⟨rfl, c1, c2, c3, c4, c5, c6⟩ := hc
      obtain rfl := Option.some.inj h
      obtain ⟨i, rfl⟩ : ∃ i, k = 2 + i := ⟨k - 2, by omega⟩
      rw [show 2 + i - 2 = i by omega] at c5 c6 ⊢
      obtain rfl := E.beq_eq _ _ c5
      have hil : i < s.l.length := by omega
      obtain ⟨r1, r8⟩ := hs.some _ (getD_mem (d := []) hil)
      have e0 : w.cell? ⟨(β 0).1, 0, none⟩ = some (.int .i64 s.win) := cellFit_spec hh hfs c3
      have e3 : w.cell? ⟨(β 0).1, 3, none⟩ = some (.int .i64 s.now) := cellFit_spec hh hfs c4
      have hlen : ((s.l.getD i []).map Msg.t).length = (s.l.getD i []).length := List.length_map ..
      have hv : (recE i (canon fs a)).ev (envB (FRB s) d t s ts) = (recent s (a.ev (envB (FRB s) d t s ts)) (s.l.getD i []) : Int) := by
        show FRB s 30 0 [Int.ofNat i, (canon fs a).ev _] = _
        rw [canon_ev hfs]; rfl
      have hlen8 : recent s (a.ev (envB (FRB s) d t s ts)) (s.l.getD i []) ≤ 8 := Nat.le_trans (List.length_filter_le _ _) r8
      have hcells : ∀ j : Nat, j < ((s.l.getD i []).map Msg.t).length → w.cell? ⟨(β (2 + i)).1, (β (2 + i)).2 + 0 + (j * 12 + 11), none⟩ = some (.int .i64 (((s.l.getD i []).map Msg.t).getD j 0)) := fun j hj => by
        rw [hlen] at hj
        unfold isArrM at c6
        split at c6
        · rename_i r a' ks v hat
          simp only [Bool.and_eq_true, beq_iff, decide_eq_true_eq] at c6
          obtain ⟨⟨rfl, rfl⟩, hks⟩ := c6
          obtain rfl := lksEq_spec hks
          obtain ⟨q1, q2⟩ := hh.lies _ _ hat j 11 (.int .i64) (by
            show j < ((lenB' a').ev _).toNat
            rw [len_evB]; omega) rfl
          obtain ⟨g1, _⟩ := rd_evB (F := FRB s) (d := d) (t := t) (ts := ts) hs hil hj (g := 11) (k := .i64) rfl (e := .lit j) rfl
          have g1 : (envB (FRB s) d t s ts).rd a' (Lk.code (.int .i64) 11) j = ((s.l.getD a' []).getD j msg0).t := g1
          rw [g1] at q1
          have e4 : ((s.l.getD a' []).map Msg.t).getD j 0 = ((s.l.getD a' []).getD j msg0).t := by
            rw [List.getD_eq_getElem?_getD, List.getElem?_map, getD_some (d := msg0) hj]; rfl
          rw [e4, Nat.add_zero]
          exact q1
        · cases c6
      have hcall := recentB_any (w := w) (cap := (cap.ev (envB (FRB s) d t s ts)).toNat) e0 e3 hcells (by rw [hlen]; exact r8) hs.win hs.now ha.2.2.1
      have hargs : SV.evs (envB (FRB s) d t s ts) β [.ptr 0 0, .inp (2 + i) 12 0 l0 (lenB' i) cap, .int .i64 a] = [.pointer (some ⟨(β 0).1, 0, none⟩), .slice (some ⟨(β (2 + i)).1, (β (2 + i)).2 + 0, none⟩) ((s.l.getD i []).map Msg.t).length (cap.ev (envB (FRB s) d t s ts)).toNat, .int .i64 (a.ev (envB (FRB s) d t s ts))] := by
        show [_, Value.slice _ ((lenB' i).ev _).toNat _, _] = _
        rw [len_evB, hlen]; rfl
      rw [hargs]
      refine hcall.mono fun x w' ⟨hx, hb⟩ => ⟨β, Ext.refl _ _, Nat.le_refl _, Stay.refl _, hh.below hb, hfs, ?_, ?_⟩
      · show (Lit.int .i64 ((recE i (canon fs a)).ev _)).wf = true
        rw [hv]
        exact wfI (by omega)
      · rw [hx]
        show _ = Ending.returned (.int .i64 ((recE i (canon fs a)).ev _))
        rw [hv, recent_times]
    · cases h
  · cases h
end
def endBC (n : Nat) (e : E) (ws : Out → List WvB) (v : Out → SV) (chk : Out → Bool) (o : Out) : Bool :=
  (chk o && (SV.fit o.fs (fun i => .var i) id o.hp.n (v o) o.v && (v o).flat && Nat.beq (rdRows o.hp).length (ws o).length && picOkB n e (rdKlB o.hp) (zipR o.hp (rdRows o.hp) (ws o)) o.hp o.fs)) || noWay o.fs
noncomputable def forgBB (n : Nat) : Bool := (runB (spRecB n) 21 argsT n []).all (endBC n (.var 14) (fun o => (keptI n o).map .old) (fun o => .int .i64 (.lit (Int.ofNat (n - (keptI n o).length)))) (fun o => allDec keepE n o.fs))
noncomputable def runSB (sp : Spc) (g : Nat) (args : List SV) (n : Nat) (p : Fs) : T Out := callG Tryd.prog [] okF sp noKeep 80 30 g args (still (hpB n)) (p ++ factsB n)
def qualEndB (n : Nat) (o : Out) : Bool :=
  allDec lessF n o.fs && (match qualI n o with
    | [] => match o.v with
      | .raw (.slice none 0 0) => true
      | _ => false
    | i :: js => match o.v with
      | .slice k 0 m none => Nat.beq m (i :: js).length && isCells o.hp o.fs k 32 12 ((i :: js).flatMap fun i => dsS (lastB i))
      | _ => false)
noncomputable def qualBB (n : Nat) : Bool := (runSB (spRecB n) 19 argsT n []).all (qualEndB n)
noncomputable def lenBB (n : Nat) : Bool := (runSB noSpec 23 [.ptr 0 0] n []).all (isLitV (Int.ofNat n))
def newEndB (o : Out) : Bool := match o.v with
  | .ptr k 0 => isCells o.hp o.fs k 57 0 [.int .i64 (.var 12), .int .i64 (.var 13), .raw (.slice none 0 0), .int .i64 (.lit 0)]
  | _ => false
set_option maxRecDepth 1000000 in
theorem forgBB_0 : forgBB 0 = true := by kernel_rfl
set_option maxRecDepth 1000000 in
theorem forgBB_1 : forgBB 1 = true := by kernel_rfl
set_option maxRecDepth 1000000 in
theorem forgBB_2 : forgBB 2 = true := by kernel_rfl
set_option maxRecDepth 1000000 in
theorem forgBB_3 : forgBB 3 = true := by kernel_rfl
set_option maxRecDepth 1000000 in
theorem qualBB_0 : qualBB 0 = true := by kernel_rfl
set_option maxRecDepth 1000000 in
theorem qualBB_1 : qualBB 1 = true := by kernel_rfl
set_option maxRecDepth 1000000 in
theorem qualBB_2 : qualBB 2 = true := by kernel_rfl
set_option maxRecDepth 1000000 in
theorem qualBB_3 : qualBB 3 = true := by kernel_rfl
set_option maxRecDepth 1000000 in
theorem forgBB_4 : forgBB 4 = true := by kernel_rfl
set_option maxRecDepth 1000000 in
theorem qualBB_4 : qualBB 4 = true := by kernel_rfl
set_option maxRecDepth 1000000 in
theorem forgBB_5 : forgBB 5 = true := by kernel_rfl
set_option maxRecDepth 1000000 in
theorem qualBB_5 : qualBB 5 = true := by kernel_rfl
set_option maxRecDepth 1000000 in
theorem lenBB_all : upTo 5 lenBB = true := by kernel_rfl
set_option maxRecDepth 1000000 in
theorem newBB_run : (callG Tryd.prog [] okF noSpec noKeep 80 30 11 [.int .i64 (.var 12), .int .i64 (.var 13)] .nil newF).all newEndB = true := by kernel_rfl
end Go.Proofs.YtbjficjcgpgcbaaDoor
