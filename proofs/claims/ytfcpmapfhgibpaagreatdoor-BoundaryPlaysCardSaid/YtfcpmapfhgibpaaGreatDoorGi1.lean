/- What the reference's records do. -/
import Derived.Test.YtfcpmapfhgibpaaGreatDoorGa1
import Derived.Deep.Light
import Derived.Lib.Hide
import Derived.WalkLawsBesides
import Derived.Outline
import Derived.Deep.QuietTactic
import Derived.Test.YtfcpmapfhgibpaaGreatDoorWi
import Derived.Test.YtfcpmapfhgibpaaGreatDoorGh10
import Derived.Test.YtfcpmapfhgibpaaGreatDoorGh20
import Derived.Test.YtfcpmapfhgibpaaGreatDoorGh30
import Derived.Test.YtfcpmapfhgibpaaGreatDoorWk
import Derived.Test.YtfcpmapfhgibpaaGreatDoorWj
set_option linter.unusedVariables false
set_option linter.unusedSimpArgs false
set_option maxRecDepth 1000000
namespace Go.Proofs.YtfcpmapfhgibpaaGreatDoor
noncomputable section
open Go Go.RowKit SX Frm Frn
theorem recentB_any {b tb cap o : Nat} {win now a : Int} {ts : List Int} {w : World} (h0 : w.cell? ⟨b, 0, none⟩ = some (.int .i64 win)) (h2 : w.cell? ⟨b, 3, none⟩ = some (.int .i64 now)) (ht : ∀ i : Nat, i < ts.length -> w.cell? ⟨tb, o + (i * 12 + 11), none⟩ = some (.int .i64 (ts.getD i 0)))
  (hlen : ts.length <= 8) (hw : 1 <= win /\ win <= maxSim) (hn : 0 <= now /\ now <= maxSim) (ha : (Lit.int .i64 a).wf = true) :
  Calls Tryz.prog 95 #[.pointer (some ⟨b, 0, none⟩), .slice (some ⟨tb, o, none⟩) ts.length cap, .int .i64 a] w fun e w' => e = .returned (.int .i64 ((ts.filter fun x => decide (max a now - win < x)).length : Int)) /\ Below w.heap.size w w' := by
 go_enter Tryz.func95, Tryz.ntmps95
 go_wp2_with fail
 go_loopw [7, 8] (fun v i wr => ∃ k : Nat, k <= ts.length /\ i = .int .i64 k /\ v = .int .i64 (((ts.take k).filter fun x => decide (max a now - win < x)).length : Int) /\ Below w.heap.size w wr) (fun _ i _ => ts.length - (intOf i).toNat)
 case atStart => exact ⟨0, Nat.zero_le _, rfl, by simp, Below.refl _ _⟩
 case round =>
  obtain ⟨k, hk, rfl, rfl, hb⟩ := hrel
  have hmx : IntKind.i64.wrap ((if a < now then now else a) - win) = max a now - win := by
   have ha' := (wf_iff .i64 a).1 ha; have i1 : IntKind.i64.min = -9223372036854775808 := by decide
   have i2 : IntKind.i64.max = 9223372036854775807 := by decide
   rw [i1, i2] at ha'; unfold maxSim at *; have e : (if a < now then now else a) = max a now := by rw [Int.max_def]; split <;> split <;> omega
   rw [e]; exact wrap_fit ⟨by rw [i1]; omega, by rw [i2]; omega⟩
  by_cases hlt : k < ts.length
  ·have hbl : ∀ p : Addr, (hp : p.block < w.heap.size) -> wr.cell? p = w.cell? p := fun p hp => hb.cell hp
   have c0 : wr.cell? ⟨b, 0, none⟩ = some (.int .i64 win) := (hbl ⟨b, 0, none⟩ (block_lt_of_cell h0)).trans h0; have c2 : wr.cell? ⟨b, 3, none⟩ = some (.int .i64 now) := (hbl ⟨b, 3, none⟩ (block_lt_of_cell h2)).trans h2; have hg : ts.getD k 0 = ts[k] := by simp [hlt]
   have ct : wr.cell? ⟨tb, o + k * 12 + 11, none⟩ = some (.int .i64 ts[k]) := by
    rw [<- hg, show o + k * 12 + 11 = o + (k * 12 + 11) by omega]
    exact (hbl ⟨tb, o + (k * 12 + 11), none⟩ (block_lt_of_cell (ht k hlt))).trans (ht k hlt)
   have hstep : ((ts.take (k + 1)).filter fun x => decide (max a now - win < x)).length = ((ts.take k).filter fun x => decide (max a now - win < x)).length + if max a now - win < ts[k] then 1 else 0 := by
    rw [List.take_succ_eq_append_getElem hlt, List.filter_append, List.length_append]; congr 1
    by_cases hc : max a now - win < ts[k] <;> simp [hc]
   have hle : ((ts.take k).filter fun x => decide (max a now - win < x)).length <= 8 := Nat.le_trans (List.length_filter_le _ _) (by rw [List.length_take]; omega)
   obtain ⟨q, hq⟩ : ∃ q, q = ((ts.take k).filter fun x => decide (max a now - win < x)).length := ⟨_, rfl⟩
   rw [<- hq] at hle hstep ⊢; have HB := Lib.hid hb; have HS := Lib.hid hstep; clear h0 h2 ht hstep hq hb hbl hg
   by_cases hc : max a now - win < ts[k]
   ·go_wp2_with fail
    go_quiet (fail)
    go_wp2
    go_roundw
    case rel => exact ⟨k + 1, by omega, by go_num, by rw [HS.out, if_pos hc]; go_num, below_drawn HB.out _⟩
    case measure => simp [intOf]; omega
   ·go_wp2_with fail
    go_quiet (fail)
    go_wp2
    go_roundw
    case rel => exact ⟨k + 1, by omega, by go_num, by rw [HS.out, if_neg (by omega), Nat.add_zero], below_drawn HB.out _⟩
    case measure => simp [intOf]; omega
  ·have hk' : k = ts.length := by omega
   subst hk'; rw [List.take_length]
   go_wp2
   go_ret
   exact ⟨rfl, hb⟩
def FRB (s : FS) : Mng := fun f _ ns => if f = 30 then (recent s (ns.tail.headD 0) (s.l.getD (ns.headD 0).toNat []) : Int) else 0
def isArrM (hp : Hp) (k i : Nat) : Bool :=
 match hp.at k with
 | some ⟨_, .arr a ks (.var v)⟩ => Nat.beq a i && Nat.beq v (15 + 2 * i) && lksEq ks msgLk
 | _ => false
def spRecB (n : Nat) : Spc := fun f args hp fs =>
 match args with
 | [.ptr 0 0, .inp k 12 0 l0 len cap, .int .i64 a] => if f = 95 /\ 2 <= k /\ k < 2 + n /\ cellFit hp fs 0 0 (.int .i64 (.var 12)) = true /\ cellFit hp fs 0 3 (.int .i64 (.var 14)) = true /\ len.beq (lenB' (k - 2)) = true /\ isArrM hp k (k - 2) = true then
   some ⟨.int .i64 (recE (k - 2) (canon fs a)), hp, fs⟩ else none
 | _ => none
section
variable {d : List Int} {t : Int} {s : FS} {ts : Tb} {n : Nat} {w0 w : World} {M : Nat -> Prop} {gl : Gl}
theorem recent_times (s : FS) (a : Int) (r : List Msg) : recent s a r = ((r.map Msg.t).filter fun x => decide (max a s.now - s.win < x)).length := by
 unfold recent; rw [List.filter_map, List.length_map]; rfl
theorem spRecB_ok (hs : RsOk s) (hl : s.l.length = n) : SpecOk Tryz.prog (envB (FRB s) d t s ts) w0 M gl (spRecB n) := fun f args hp fs o h β w hh hfs ha hg => by
 unfold spRecB at h; split at h
 ·rename_i k l0 len cap a
  split at h
  ·rename_i hc
   obtain ⟨rfl, c1, c2, c3, c4, c5, c6⟩ := hc; obtain rfl := sinj h; obtain ⟨i, rfl⟩ : ∃ i, k = 2 + i := ⟨k - 2, by omega⟩
   rw [show 2 + i - 2 = i by omega] at c5 c6 ⊢
   obtain rfl := E.beq_eq _ _ c5; have hil : i < s.l.length := by omega
   obtain ⟨r1, r8⟩ := hs.some _ (getD_mem (d := []) hil); have e0 : w.cell? ⟨(β 0).1, 0, none⟩ = some (.int .i64 s.win) := cellFit_spec hh hfs c3; have e3 : w.cell? ⟨(β 0).1, 3, none⟩ = some (.int .i64 s.now) := cellFit_spec hh hfs c4; have hlen : ((s.l.getD i []).map Msg.t).length = (s.l.getD i []).length := List.length_map ..
   have hv : (recE i (canon fs a)).ev (envB (FRB s) d t s ts) = (recent s (a.ev (envB (FRB s) d t s ts)) (s.l.getD i []) : Int) := by
    show FRB s 30 0 [Int.ofNat i, (canon fs a).ev _] = _; rw [canon_ev hfs]; rfl
   have hlen8 : recent s (a.ev (envB (FRB s) d t s ts)) (s.l.getD i []) <= 8 := Nat.le_trans (List.length_filter_le _ _) r8
   have hcells : ∀ j : Nat, j < ((s.l.getD i []).map Msg.t).length -> w.cell? ⟨(β (2 + i)).1, (β (2 + i)).2 + 0 + (j * 12 + 11), none⟩ = some (.int .i64 (((s.l.getD i []).map Msg.t).getD j 0)) := fun j hj => by
    rw [hlen] at hj; unfold isArrM at c6; split at c6
    ·rename_i r a' ks v hat
     simp only [bAnd, beq_iff, dEq] at c6; obtain ⟨⟨rfl, rfl⟩, hks⟩ := c6; obtain rfl := lksEq_spec hks
     obtain ⟨q1, q2⟩ := hh.lies _ _ hat j 11 (.int .i64) (by
      show j < ((lenB' a').ev _).toNat; rw [len_evB]; omega) rfl
     obtain ⟨g1, _⟩ := rd_evB (F := FRB s) (d := d) (t := t) (ts := ts) hs hil hj (g := 11) (k := .i64) rfl (e := .lit j) rfl; have g1 : (envB (FRB s) d t s ts).rd a' (Lk.code (.int .i64) 11) j = ((s.l.getD a' []).getD j msg0).t := g1; rw [g1] at q1
     have e4 : ((s.l.getD a' []).map Msg.t).getD j 0 = ((s.l.getD a' []).getD j msg0).t := by
      rw [gDe, lMp, getD_some (d := msg0) hj]; rfl
     rw [e4, Nat.add_zero]; exact q1
    ·cases c6
   have hcall := recentB_any (w := w) (cap := (cap.ev (envB (FRB s) d t s ts)).toNat) e0 e3 hcells (by rw [hlen]; exact r8) hs.win hs.now ha.2.2.1
   have hargs : SV.evs (envB (FRB s) d t s ts) β [.ptr 0 0, .inp (2 + i) 12 0 l0 (lenB' i) cap, .int .i64 a] = [.pointer (some ⟨(β 0).1, 0, none⟩), .slice (some ⟨(β (2 + i)).1, (β (2 + i)).2 + 0, none⟩) ((s.l.getD i []).map Msg.t).length (cap.ev (envB (FRB s) d t s ts)).toNat, .int .i64 (a.ev (envB (FRB s) d t s ts))] := by
    show [_, Value.slice _ ((lenB' i).ev _).toNat _, _] = _; rw [len_evB, hlen]; rfl
   rw [hargs]; refine hcall.mono fun x w' ⟨hx, hb⟩ => ⟨β, Ext.refl _ _, Nat.le_refl _, Stay.refl _, hh.below hb, hfs, ?_, ?_⟩
   ·show (Lit.int .i64 ((recE i (canon fs a)).ev _)).wf = true
    rw [hv]; exact wfI (by omega)
   ·rw [hx]
    show _ = Ending.returned (.int .i64 ((recE i (canon fs a)).ev _)); rw [hv, recent_times]
  ·cases h
 ·cases h
end
def endBC (n : Nat) (e : E) (ws : Out -> List WvB) (v : Out -> SV) (chk : Out -> Bool) (o : Out) : Bool :=
 (chk o && (SV.fit o.fs (fun i => .var i) id o.hp.n (v o) o.v && (v o).flat && Nat.beq (rdRows o.hp).length (ws o).length && picOkB n e (rdKlB o.hp) (zipR o.hp (rdRows o.hp) (ws o)) o.hp o.fs)) || noWay o.fs
def forgBB (n : Nat) : Bool := (runB (spRecB n) 65 argsT n []).all (endBC n (.var 14) (fun o => (keptI n o).map .old) (fun o => .int .i64 (.lit (Int.ofNat (n - (keptI n o).length)))) (fun o => allDec keepE n o.fs))
def runSB (sp : Spc) (g : Nat) (args : List SV) (n : Nat) (p : Fs) : T Out := callG Tryz.prog [] okF sp noKeep 80 30 g args (still (hpB n)) (p ++ factsB n)
def qualEndB (n : Nat) (o : Out) : Bool :=
 allDec lessF n o.fs && (match qualI n o with
  | [] => match o.v with
   | .raw (.slice none 0 0) => true
   | _ => false
  | i :: js => match o.v with
   | .slice k 0 m none => Nat.beq m (i :: js).length && isCells o.hp o.fs k 46 12 ((i :: js).flatMap fun i => dsS (lastB i))
   | _ => false)
def qualBB (n : Nat) : Bool := (runSB (spRecB n) 96 argsT n []).all (qualEndB n)
def newEndB (o : Out) : Bool := match o.v with
 | .ptr k 0 => isCells o.hp o.fs k 121 0 [.int .i64 (.var 12), .int .i64 (.var 13), .raw (.slice none 0 0), .int .i64 (.lit 0)]
 | _ => false
theorem forgBB_0 : forgBB 0 = true := by kernel_rfl
theorem forgBB_1 : forgBB 1 = true := by kernel_rfl
theorem forgBB_2 : forgBB 2 = true := by kernel_rfl
theorem forgBB_3 : forgBB 3 = true := by kernel_rfl
theorem qualBB_0 : qualBB 0 = true := by kernel_rfl
theorem qualBB_1 : qualBB 1 = true := by kernel_rfl
theorem qualBB_2 : qualBB 2 = true := by kernel_rfl
theorem qualBB_3 : qualBB 3 = true := by kernel_rfl
theorem forgBB_4 : forgBB 4 = true := by kernel_rfl
theorem qualBB_4 : qualBB 4 = true := by kernel_rfl
theorem forgBB_5 : forgBB 5 = true := by kernel_rfl
theorem qualBB_5 : qualBB 5 = true := by kernel_rfl
theorem newBB_run : (callG Tryz.prog [] okF noSpec noKeep 80 30 28 [.int .i64 (.var 12), .int .i64 (.var 13)] .nil newF).all newEndB = true := by kernel_rfl
theorem foundB_all {n i k : Nat} (h5 : n <= 5) (hi : i < n) (h1 : 1 <= k) (h8 : k <= 8) : foundBB n i k = true := by
 have key : ∀ p : Nat -> Bool, upTo 7 (fun q => p (q + 1)) = true -> p k = true := fun p hp => by
  have := upTo_spec hp (i := k - 1) (by omega)
  simpa [show k - 1 + 1 = k by omega] using this
 match n, i, h5, hi with
 | 1, 0, _, _ => exact key _ foundB_1_0
 | 2, 0, _, _ => exact key _ foundB_2_0
 | 2, 1, _, _ => exact key _ foundB_2_1
 | 3, 0, _, _ => exact key _ foundB_3_0
 | 3, 1, _, _ => exact key _ foundB_3_1
 | 3, 2, _, _ => exact key _ foundB_3_2
 | 4, 0, _, _ => match k, h1, h8 with
  | 1, _, _ => exact foundB_4_0_1
  | 2, _, _ => exact foundB_4_0_2
  | 3, _, _ => exact foundB_4_0_3
  | 4, _, _ => exact foundB_4_0_4
  | 5, _, _ => exact foundB_4_0_5
  | 6, _, _ => exact foundB_4_0_6
  | 7, _, _ => exact foundB_4_0_7
  | 8, _, _ => exact foundB_4_0_8
 | 4, 1, _, _ => match k, h1, h8 with
  | 1, _, _ => exact foundB_4_1_1
  | 2, _, _ => exact foundB_4_1_2
  | 3, _, _ => exact foundB_4_1_3
  | 4, _, _ => exact foundB_4_1_4
  | 5, _, _ => exact foundB_4_1_5
  | 6, _, _ => exact foundB_4_1_6
  | 7, _, _ => exact foundB_4_1_7
  | 8, _, _ => exact foundB_4_1_8
 | 4, 2, _, _ => match k, h1, h8 with
  | 1, _, _ => exact foundB_4_2_1
  | 2, _, _ => exact foundB_4_2_2
  | 3, _, _ => exact foundB_4_2_3
  | 4, _, _ => exact foundB_4_2_4
  | 5, _, _ => exact foundB_4_2_5
  | 6, _, _ => exact foundB_4_2_6
  | 7, _, _ => exact foundB_4_2_7
  | 8, _, _ => exact foundB_4_2_8
 | 4, 3, _, _ => match k, h1, h8 with
  | 1, _, _ => exact foundB_4_3_1
  | 2, _, _ => exact foundB_4_3_2
  | 3, _, _ => exact foundB_4_3_3
  | 4, _, _ => exact foundB_4_3_4
  | 5, _, _ => exact foundB_4_3_5
  | 6, _, _ => exact foundB_4_3_6
  | 7, _, _ => exact foundB_4_3_7
  | 8, _, _ => exact foundB_4_3_8
 | 5, 0, _, _ => match k, h1, h8 with
  | 1, _, _ => exact foundB_5_0_1
  | 2, _, _ => exact foundB_5_0_2
  | 3, _, _ => exact foundB_5_0_3
  | 4, _, _ => exact foundB_5_0_4
  | 5, _, _ => exact foundB_5_0_5
  | 6, _, _ => exact foundB_5_0_6
  | 7, _, _ => exact foundB_5_0_7
  | 8, _, _ => exact foundB_5_0_8
 | 5, 1, _, _ => match k, h1, h8 with
  | 1, _, _ => exact foundB_5_1_1
  | 2, _, _ => exact foundB_5_1_2
  | 3, _, _ => exact foundB_5_1_3
  | 4, _, _ => exact foundB_5_1_4
  | 5, _, _ => exact foundB_5_1_5
  | 6, _, _ => exact foundB_5_1_6
  | 7, _, _ => exact foundB_5_1_7
  | 8, _, _ => exact foundB_5_1_8
 | 5, 2, _, _ => match k, h1, h8 with
  | 1, _, _ => exact foundB_5_2_1
  | 2, _, _ => exact foundB_5_2_2
  | 3, _, _ => exact foundB_5_2_3
  | 4, _, _ => exact foundB_5_2_4
  | 5, _, _ => exact foundB_5_2_5
  | 6, _, _ => exact foundB_5_2_6
  | 7, _, _ => exact foundB_5_2_7
  | 8, _, _ => exact foundB_5_2_8
 | 5, 3, _, _ => match k, h1, h8 with
  | 1, _, _ => exact foundB_5_3_1
  | 2, _, _ => exact foundB_5_3_2
  | 3, _, _ => exact foundB_5_3_3
  | 4, _, _ => exact foundB_5_3_4
  | 5, _, _ => exact foundB_5_3_5
  | 6, _, _ => exact foundB_5_3_6
  | 7, _, _ => exact foundB_5_3_7
  | 8, _, _ => exact foundB_5_3_8
 | 5, 4, _, _ => match k, h1, h8 with
  | 1, _, _ => exact foundB_5_4_1
  | 2, _, _ => exact foundB_5_4_2
  | 3, _, _ => exact foundB_5_4_3
  | 4, _, _ => exact foundB_5_4_4
  | 5, _, _ => exact foundB_5_4_5
  | 6, _, _ => exact foundB_5_4_6
  | 7, _, _ => exact foundB_5_4_7
  | 8, _, _ => exact foundB_5_4_8
theorem freshB_all {n : Nat} (hn : n < 5) : freshBB n = true := by
 match n, hn with
 | 0, _ => exact freshB_0
 | 1, _ => exact freshB_1
 | 2, _ => exact freshB_2
 | 3, _ => exact freshB_3
 | 4, _ => exact freshB_4
theorem dropB_all : ∀ bs : List Bool, bs.length = 4 -> dropOk bs = true
 | [false, false, false, false], _ => dropB_ffff
 | [false, false, false, true], _ => dropB_ffft
 | [false, false, true, false], _ => dropB_fftf
 | [false, false, true, true], _ => dropB_fftt
 | [false, true, false, false], _ => dropB_ftff
 | [false, true, false, true], _ => dropB_ftft
 | [false, true, true, false], _ => dropB_fttf
 | [false, true, true, true], _ => dropB_fttt
 | [true, false, false, false], _ => dropB_tfff
 | [true, false, false, true], _ => dropB_tfft
 | [true, false, true, false], _ => dropB_tftf
 | [true, false, true, true], _ => dropB_tftt
 | [true, true, false, false], _ => dropB_ttff
 | [true, true, false, true], _ => dropB_ttft
 | [true, true, true, false], _ => dropB_tttf
 | [true, true, true, true], _ => dropB_tttt
 | [], h => by cases h
 | [_], h => by cases h
 | [_, _], h => by cases h
 | [_, _, _], h => by cases h
 | _ :: _ :: _ :: _ :: _ :: _, h => by simp at h
def TurnsB (s' : FS) (b : Nat) (φ : Nat -> Prop) (w w' : World) : Prop := ∃ φ', ObB s' b φ' w' /\ (∀ i, φ' i -> φ i \/ w.heap.size <= i) /\ Kept w φ w'
section
variable {s : FS} {b : Nat} {φ : Nat -> Prop} {w w' : World}
theorem TurnsB.of {s' : FS} (hs' : RsOk s') {l' : List (List Msg)} {lb : Nat} {ts : Tb} (hl' : s'.l = l')
  (hφ : ∀ i, φ i ↔ i ∈ blksB s.l b lb ts) (h : ∃ lb' lc' ts', LayB s'.win s'.need s'.now l' b lb' lc' ts' w' /\ ∀ i ∈ blksB l' b lb' ts', i ∈ blksB s.l b lb ts \/ w.heap.size <= i) (hk : Kept w (fun i => i ∈ blksB s.l b lb ts) w') : TurnsB s' b φ w w' := by
 subst hl'; obtain ⟨lb', lc', ts', h1, h2⟩ := h; refine ⟨fun i => i ∈ blksB s'.l b lb' ts', ⟨hs', lb', lc', ts', h1, fun i => Iff.rfl⟩, fun i hi => ?_, ⟨hk.os, hk.tape, hk.output, hk.size, fun i hi hn => hk.block i hi fun hm => hn ((hφ i).2 hm)⟩⟩
 rcases h2 i hi with h | h
 ·exact .inl ((hφ i).2 h)
 ·exact .inr h
theorem TurnsB.same (h : ObB s b φ w) (hb : Below w.heap.size w w') : TurnsB s b φ w w' := by
 obtain ⟨hs, lb, lc, ts, h1, h2⟩ := h; exact ⟨φ, ⟨hs, lb, lc, ts, h1.keep fun i hi => hb.block i (h1.lt_of hi), h2⟩, fun i hi => .inl hi, ⟨hb.os, hb.tape, hb.output, hb.size, fun i hi _ => hb.block i hi⟩⟩
section
variable {F : Mng} {d : List Int} {t : Int} {ts : Tb}
theorem v11_evB : (E.var 11).ev (envB F d t s ts) = t := rfl
theorem v14_evB : (E.var 14).ev (envB F d t s ts) = s.now := rfl
theorem last_getD {r : List Msg} (h : 1 <= r.length) : r.getD (r.length - 1) msg0 = lastM r := by
 have hi : r.length - 1 < r.length := by omega
 rw [gDe, lGe hi]; show r[r.length - 1] = _; unfold lastM; cases r with
 | nil => simp at h
 | cons x r => simp [List.getLastD, List.getLast_eq_getElem]
theorem lastB_ev (hs : RsOk s) {i : Nat} (hi : i < s.l.length) {g : Nat} {k : IntKind} (hk : msgK[g]? = some k) : (lastB i g).ev (envB F d t s ts) = fldM (lastM (s.l.getD i [])) g := by
 obtain ⟨r1, r8⟩ := hs.some _ (getD_mem (d := []) hi)
 have hg : msgLk.getD g .bool = .int k := by
  unfold msgLk; rw [gDe, lMp, hk]; rfl
 have e2 : (E.bin .sub .i64 (lenB' i) (.lit 1)).ev (envB F d t s ts) = (((s.l.getD i []).length - 1 : Nat) : Int) := by
  show IntKind.i64.wrap ((lenB' i).ev _ - 1) = _; rw [len_evB, wrap_fit ((wf_iff .i64 _).1 (wfI (by omega)))]
  omega
 unfold lastB; rw [hg, (rd_evB hs hi (show (s.l.getD i []).length - 1 < _ by omega) hk e2).1, last_getD r1]
theorem oldM_ev (hs : RsOk s) {i q : Nat} (hi : i < s.l.length) (hq : q < (s.l.getD i []).length) {g : Nat} {k : IntKind} (hk : msgK[g]? = some k) : (oldM i q g).ev (envB F d t s ts) = fldM ((s.l.getD i []).getD q msg0) g := by
 have hg : msgLk.getD g .bool = .int k := by
  unfold msgLk; rw [gDe, lMp, hk]; rfl
 unfold oldM; rw [hg, (rd_evB hs hi hq hk (e := .lit (Int.ofNat q)) rfl).1]
theorem msgK_some {g : Nat} (hg : g < 12) : ∃ k, msgK[g]? = some k := ⟨_, lGe hg⟩
theorem msgOf_old (hs : RsOk s) {i q : Nat} (hi : i < s.l.length) (hq : q < (s.l.getD i []).length) : msgOf (envB F d t s ts) (oldM i q) = (s.l.getD i []).getD q msg0 := by
 have hm := hs.msgs _ (getD_mem (d := []) hi) _ (getD_mem (d := msg0) hq); have hl := fits_len hm.fits; unfold msgOf
 have e1 : ((List.range 11).map fun j => (oldM i q j).ev (envB F d t s ts)) = ((s.l.getD i []).getD q msg0).d := by
  rw [<- range11_self hl]; refine List.map_congr_left fun j hj => ?_
  have hj := mRa.1 hj; obtain ⟨k, hk⟩ := msgK_some (g := j) (by omega)
  rw [oldM_ev hs hi hq hk]; unfold fldM; rw [if_pos hj]
 have e2 : (oldM i q 11).ev (envB F d t s ts) = ((s.l.getD i []).getD q msg0).t := by
  obtain ⟨k, hk⟩ := msgK_some (g := 11) (by omega)
  rw [oldM_ev hs hi hq hk]; rfl
 rw [e1, e2]
theorem eqOrgB_ev (hs : RsOk s) {g : Nat -> E} {j : Nat} (hj : j < s.l.length) (h7 : (g 7).ev (envB F d t s ts) = d.getD 7 0) (h8 : (g 8).ev (envB F d t s ts) = d.getD 8 0) :
  (eqOrgB g j).ev (envB F d t s ts) ≠ 0 ↔ org (lastM (s.l.getD j [])).d = org d := by
 have e1 := eqk_ev (ρ := envB F d t s ts) .u64 (lastB j 7) (g 7); have e2 := eqk_ev (ρ := envB F d t s ts) .i64 (lastB j 8) (g 8); rw [lastB_ev hs hj (k := .u64) rfl, h7] at e1; rw [lastB_ev hs hj (k := .i64) rfl, h8] at e2; have e0 : (eqOrgB g j).ev (envB F d t s ts) = if (E.bin .eq .u64 (lastB j 7) (g 7)).ev (envB F d t s ts) ≠ 0 /\ (E.bin .eq .i64 (lastB j 8) (g 8)).ev (envB F d t s ts) ≠ 0 then 1 else 0 := rfl
 rw [e0]; refine ⟨fun h => ?_, fun h => ?_⟩
 ·by_cases hc : (E.bin .eq .u64 (lastB j 7) (g 7)).ev (envB F d t s ts) ≠ 0 /\ (E.bin .eq .i64 (lastB j 8) (g 8)).ev (envB F d t s ts) ≠ 0
  ·exact Prod.ext (e1.1 hc.1) (e2.1 hc.2)
  ·rw [if_neg hc] at h; exact absurd rfl h
 ·rw [if_pos ⟨e1.2 (congrArg Prod.fst h), e2.2 (congrArg Prod.snd h)⟩]; decide
theorem notFB_ok (hs : RsOk s) {g : Nat -> E} {m : Nat} (hm : m <= s.l.length) (h7 : (g 7).ev (envB F d t s ts) = d.getD 7 0) (h8 : (g 8).ev (envB F d t s ts) = d.getD 8 0) (h : ∀ j, j < m -> org (lastM (s.l.getD j [])).d ≠ org d) : SX.FsOk (envB F d t s ts) (notFB g m) := fun p hp => by
 obtain ⟨j, hj, rfl⟩ := List.mem_map.1 hp; have hj' := mRa.1 hj; show (eqOrgB g j).ev _ ≠ 0 ↔ false = true; rw [eqOrgB_ev hs (by omega) h7 h8]
 exact ⟨fun e => absurd e (h j hj'), fun e => Bool.noConfusion e⟩
theorem goodF_okB {g : Nat -> E} (hg : ∀ j, j < 11 -> (g j).ev (envB F d t s ts) = d.getD j 0) (h1 : 0 <= t /\ t <= maxSim) (h2 : s.now <= t) (h3 : d.getD 7 0 ≠ d.getD 9 0) (h4 : d.getD 6 0 < 32) : SX.FsOk (envB F d t s ts) (goodF g) := by
 unfold maxSim at h1; rw [goodF, fsOk_cons, fsOk_cons, fsOk_cons, fsOk_cons, fsOk_cons, fsOk_nil, lt0_ev, lt0_ev, lt0_ev, lt0_ev, eqk_ev, hg 7 (by decide), hg 9 (by decide), hg 6 (by decide), v11_evB, v14_evB, lit_ev, lit_ev, lit_ev]
 exact ⟨⟨fun h => by omega, fun h => Bool.noConfusion h⟩, ⟨fun h => by omega, fun h => Bool.noConfusion h⟩, ⟨fun h => by omega, fun h => Bool.noConfusion h⟩, ⟨fun h => absurd h h3, fun h => Bool.noConfusion h⟩, ⟨fun _ => rfl, fun _ => h4⟩, trivial⟩
end
theorem range_self {l : List (List Msg)} : (List.range l.length).map (fun j => l.getD j []) = l := by
 apply List.ext_getElem?; intro j
 by_cases hj : j < l.length
 ·simp [hj, lRa hj]
 ·simp [hj]
set_option maxHeartbeats 2000000 in
theorem hearB_found (hs : RsOk s) {lb lc : Nat} {ts : Tb} (hlay : LayB s.win s.need s.now s.l b lb lc ts w) (hφ : ∀ i, φ i ↔ i ∈ blksB s.l b lb ts) (h0 : s.l = [] -> lb = w.heap.size) {d : List Int} {t : Int} (hd : fitsK ks11 d) (ht : (Lit.int .i64 t).wf = true) (hz : bad s d t = 0) {i : Nat} (hfi : Frm.find d s.l = some i) : Calls Tryz.prog 64 #[ptrV b, .agg (dsVals d).toArray, .int .i64 t] w fun e w' => e = .returned (.int .i64 0) /\ TurnsB (hear s d t) b φ w w' := by
 obtain ⟨b1, b2, b3, b4⟩ := bad_zero hz; have hs' := rsOk_hear hs hd t; rw [hear_ok hz] at hs' ⊢; have h5 := hs.five; have hd11 : d.length = 11 := fits_len hd; obtain ⟨f1, f2, f3⟩ := find_some hfi; have hr : s.l.getD i [] ∈ s.l := getD_mem f1; obtain ⟨k1, k8⟩ := hs.some _ hr; obtain ⟨ρ, hρ⟩ : ∃ ρ, ρ = envB (fun _ _ _ => 0) d t s ts := ⟨_, rfl⟩
 have og : ∀ j, j < 11 -> (ofRecB i j).ev ρ = d.getD j 0 := fun j hj => by
  have e7 : (lastB i 7).ev ρ = d.getD 7 0 /\ (lastB i 8).ev ρ = d.getD 8 0 := by
   have := f2; unfold org at this; simp only [Prod.mk.injEq] at this; rw [hρ, lastB_ev hs f1 (k := .u64) rfl, lastB_ev hs f1 (k := .i64) rfl]; exact this
  unfold ofRecB; rw [beq_iff, beq_iff]
  by_cases h7 : j = 7
  ·subst h7; exact e7.1
  ·rw [decide_eq_false h7]
   by_cases h8 : j = 8
   ·subst h8; exact e7.2
   ·rw [decide_eq_false h8, hρ]; exact arg_evB j hj
 have hlenF : SX.FsOk ρ [(eq0 (lenB' i) (.lit (Int.ofNat (s.l.getD i []).length)), true)] := by
  rw [fsOk_cons, fsOk_nil]; unfold eq0; rw [eqk_ev, hρ, len_evB]; exact ⟨⟨fun _ => rfl, fun _ => rfl⟩, trivial⟩
 have hrun := chg_B (F := fun _ _ _ => 0) (sp := noSpec) (g := 64) (args := argsH (ofRecB i)) (p := goodF (ofRecB i) ++ (notFB (ofRecB i) i ++ [(eq0 (lenB' i) (.lit (Int.ofNat (s.l.getD i []).length)), true)])) (e := .var 11) (ws := fun _ => (List.range s.l.length).map (foundWB i (s.l.getD i []).length)) (v := fun _ => .int .i64 (.lit 0)) hs hlay rfl h0 hd ht noSpec_ok
  (by rw [<- hρ]; exact fsOk_app (by rw [hρ] at og ⊢; exact goodF_okB og b1 b2 b3 b4) (fsOk_app (by rw [hρ] at og ⊢; exact notFB_ok hs (by omega) (og 7 (by decide)) (og 8 (by decide)) f3) hlenF))
  (by rw [<- hρ]; exact ⟨by show 0 < _; omega, dsS_ok og hd, by rw [hρ]; exact ht, trivial⟩) (foundB_all h5 f1 k1 k8)
 rw [<- hρ] at hrun
 have ea : SV.evs ρ (bmB b lb lc ts) (argsH (ofRecB i)) = [ptrV b, .agg (dsVals d).toArray, .int .i64 t] := by
  show [ptrV b, Value.agg (SV.evs _ _ (dsS (ofRecB i))).toArray, Value.int .i64 ((E.var 11).ev ρ)] = _; rw [dsS_ev og, hρ, v11_evB]
 rw [ea] at hrun; refine hrun.mono fun x w' ⟨o, ho, hx, hl, hk'⟩ => ⟨hx, TurnsB.of hs' ?_ hφ (by rw [hρ, v11_evB] at hl; exact hl) hk'⟩
 show put d t s.l = ((List.range s.l.length).map (foundWB i (s.l.getD i []).length)).map (WvB.view (envB (fun _ _ _ => 0) d t s ts) s.l)
 unfold put; rw [hfi]; apply List.ext_getElem?; intro j
 by_cases hj : j < s.l.length
 ·simp only [lMp, lRa hj, Option.map_some, List.getElem?_set]
  by_cases hji : i = j
  ·subst hji
   rw [if_pos rfl, if_pos hj]; congr 1; unfold foundWB; rw [beq_iff, decide_eq_true rfl, cond_true]; show keep8 (s.l.getD i [] ++ [⟨d, t⟩]) = (dropM ((s.l.getD i []).length + 1) ((List.range (s.l.getD i []).length).map (oldM i) ++ [ofRecB i])).map (msgOf (envB (fun _ _ _ => 0) d t s ts))
   have hnew : msgOf (envB (fun _ _ _ => 0) d t s ts) (ofRecB i) = ⟨d, t⟩ := by
    unfold msgOf
    have e1 : ((List.range 11).map fun q => (ofRecB i q).ev (envB (fun _ _ _ => 0) d t s ts)) = d := by
     have : ((List.range 11).map fun q => (ofRecB i q).ev (envB (fun _ _ _ => 0) d t s ts)) = (List.range 11).map fun q => d.getD q 0 := List.map_congr_left fun q hq => by rw [<- hρ]; exact og q (mRa.1 hq)
     rw [this, range11_self hd11]
    rw [e1]; rfl
   have hall : ((List.range (s.l.getD i []).length).map (oldM i) ++ [ofRecB i]).map (msgOf (envB (fun _ _ _ => 0) d t s ts)) = s.l.getD i [] ++ [⟨d, t⟩] := by
    rw [List.map_append, List.map_map, List.map_cons, List.map_nil, hnew]; congr 1; have : (List.range (s.l.getD i []).length).map (msgOf (envB (fun _ _ _ => 0) d t s ts) ∘ oldM i) = (List.range (s.l.getD i []).length).map fun q => (s.l.getD i []).getD q msg0 := List.map_congr_left fun q hq => msgOf_old hs f1 (mRa.1 hq)
    rw [this]; generalize s.l.getD i [] = r; apply List.ext_getElem?; intro q
    by_cases hq : q < r.length
    ·simp [hq, lRa hq]
    ·simp [hq]
   unfold dropM keep8; rw [blt_iff, List.length_append, List.length_singleton]
   by_cases hk8 : 8 < (s.l.getD i []).length + 1
   ·rw [decide_eq_true hk8, cond_true, if_pos (by omega), List.map_tail, hall]
   ·rw [decide_eq_false hk8, cond_false, if_neg (by omega), hall]
  ·rw [if_neg hji]
   unfold foundWB; rw [beq_iff, decide_eq_false (fun e => hji e.symm), cond_false, getD_some (d := []) hj]
   rfl
 ·rw [lNo (by simp; omega), lNo (by simp; omega)]
theorem arg_viewB {F : Mng} {d : List Int} {t : Int} {ts : Tb} (hd : d.length = 11) : msgOf (envB F d t s ts) .var = ⟨d, t⟩ := by
 unfold msgOf; have e : ((List.range 11).map fun q => (E.var q).ev (envB F d t s ts)) = (List.range 11).map fun q => d.getD q 0 := List.map_congr_left fun q hq => arg_evB q (mRa.1 hq)
 rw [e, range11_self hd]; rfl
theorem chain_from {ρ : Env} {L : List (List Msg)} (hlate : ∀ j, j < 5 -> (lastB j 11).ev ρ = (lastM (L.getD j [])).t) : ∀ (l : List (List Msg)) (i k : Nat) (t : Int), L.drop i = l -> i + l.length = 5 -> k < 5 -> (lastM (L.getD k [])).t = t -> ∃ bs : List Bool, bs.length = l.length /\ SX.FsOk ρ (chainL i k bs) /\ endL i k bs = oldest t k i l
 | [], i, k, t, _, _, _, _ => ⟨[], rfl, (show SX.FsOk ρ [] from fun _ h => nomatch h), rfl⟩
 | r :: l, i, k, t, hd, hi, hk, ht => by
  have hi5 : i < 5 := by simp at hi; omega
  have hlt : i < L.length := by
   by_cases h : i < L.length
   ·exact h
   ·rw [List.drop_eq_nil_of_le (by omega)] at hd; cases hd
  have hr : L.getD i [] = r := by
   have : (L.drop i)[0]? = some r := by rw [hd]; rfl
   rw [List.getElem?_drop, Nat.add_zero] at this; simp [List.getD, this]
  have hd' : L.drop (i + 1) = l := by rw [<- List.drop_drop, hd]; rfl
  have hl0 : (lt0 (lastB i 11) (lastB k 11)).ev ρ ≠ 0 ↔ (lastM r).t < t := by rw [lt0_ev, hlate i hi5, hlate k hk, hr, ht]
  by_cases c : (lastM r).t < t
  ·obtain ⟨bs, h1, h2, h3⟩ := chain_from hlate l (i + 1) i (lastM r).t hd' (by simp at hi; omega) hi5 (by rw [hr])
   refine ⟨true :: bs, by simp [h1], ?_, ?_⟩
   ·show SX.FsOk ρ ((lt0 (lastB i 11) (lastB k 11), true) :: chainL (i + 1) i bs)
    rw [fsOk_cons]; exact ⟨⟨fun _ => rfl, fun _ => hl0.2 c⟩, h2⟩
   ·show endL (i + 1) i bs = _
    simp only [oldest, if_pos c]; exact h3
  ·obtain ⟨bs, h1, h2, h3⟩ := chain_from hlate l (i + 1) k t hd' (by simp at hi; omega) hk ht
   refine ⟨false :: bs, by simp [h1], ?_, ?_⟩
   ·show SX.FsOk ρ ((lt0 (lastB i 11) (lastB k 11), false) :: chainL (i + 1) k bs)
    rw [fsOk_cons]; exact ⟨⟨fun h => absurd (hl0.1 h) c, fun h => Bool.noConfusion h⟩, h2⟩
   ·show endL (i + 1) k bs = _
    simp only [oldest, if_neg c]; exact h3
theorem chain_of {ρ : Env} {L : List (List Msg)} (hn : L.length = 5) (hlate : ∀ j, j < 5 -> (lastB j 11).ev ρ = (lastM (L.getD j [])).t) : ∃ bs : List Bool, bs.length = 4 /\ SX.FsOk ρ (chainL 1 0 bs) /\ endL 1 0 bs = old L := by
 obtain ⟨bs, h1, h2, h3⟩ := chain_from hlate (L.drop 1) 1 0 (lastM (L.getD 0 [])).t rfl (by simp [hn]) (by decide) rfl
 refine ⟨bs, by rw [h1, List.length_drop, hn], h2, ?_⟩
 rw [h3]; cases L with
 | nil => cases hn
 | cons r l =>
  show oldest (lastM r).t 0 1 l = oldest (lastM r).t 0 0 (r :: l); simp only [oldest]; rw [if_neg (by omega)]
set_option maxHeartbeats 2000000 in
theorem hearB_fresh (hs : RsOk s) {lb lc : Nat} {ts : Tb} (hlay : LayB s.win s.need s.now s.l b lb lc ts w) (hφ : ∀ i, φ i ↔ i ∈ blksB s.l b lb ts) (h0 : s.l = [] -> lb = w.heap.size) {d : List Int} {t : Int} (hd : fitsK ks11 d) (ht : (Lit.int .i64 t).wf = true) (hz : bad s d t = 0) (hfi : Frm.find d s.l = none) : Calls Tryz.prog 64 #[ptrV b, .agg (dsVals d).toArray, .int .i64 t] w fun e w' => e = .returned (.int .i64 0) /\ TurnsB (hear s d t) b φ w w' := by
 obtain ⟨b1, b2, b3, b4⟩ := bad_zero hz; have hs' := rsOk_hear hs hd t; rw [hear_ok hz] at hs' ⊢; have h5 := hs.five; have hd11 : d.length = 11 := fits_len hd; have hne := find_none hfi; have hnot : ∀ j, j < s.l.length -> org (lastM (s.l.getD j [])).d ≠ org d := fun j hj => hne _ (getD_mem hj)
 have ea : SV.evs (envB (fun _ _ _ => 0) d t s ts) (bmB b lb lc ts) (argsH .var) = [ptrV b, .agg (dsVals d).toArray, .int .i64 t] := by
  show [ptrV b, Value.agg (SV.evs _ _ (dsS .var)).toArray, Value.int .i64 t] = _; rw [dsS_ev fun j hj => arg_evB j hj]
 have hargs : ∀ m, 0 < m -> SV.oks (envB (fun _ _ _ => 0) d t s ts) m (argsH .var) := fun m hm => ⟨hm, dsS_ok (fun j hj => arg_evB j hj) hd, ht, trivial⟩
 have hnew : WvB.view (envB (fun _ _ _ => 0) d t s ts) s.l (.new [.var]) = [⟨d, t⟩] := by
  show [msgOf _ .var] = _; rw [arg_viewB hd11]
 have hgood := goodF_okB (F := fun _ _ _ => 0) (s := s) (ts := ts) (g := .var) (fun j hj => arg_evB j hj) b1 b2 b3 b4
 by_cases hn5 : s.l.length < 5
 ·have hrun := chg_B (F := fun _ _ _ => 0) (sp := noSpec) (g := 64) (args := argsH .var) (p := goodF .var ++ notFB .var s.l.length) (e := .var 11) (ws := fun _ => (List.range s.l.length).map WvB.old ++ [WvB.new [E.var]]) (v := fun _ => .int .i64 (.lit 0)) hs hlay rfl h0 hd ht noSpec_ok
   (fsOk_app hgood (notFB_ok hs (Nat.le_refl _) (arg_evB 7 (by decide)) (arg_evB 8 (by decide)) hnot)) (hargs _ (by omega)) (freshB_all hn5)
  rw [ea] at hrun; refine hrun.mono fun x w' ⟨o, ho, hx, hl, hk'⟩ => ⟨hx, TurnsB.of hs' ?_ hφ hl hk'⟩
  show put d t s.l = ((List.range s.l.length).map WvB.old ++ [WvB.new [E.var]]).map (WvB.view _ s.l); unfold put; rw [hfi]; simp only [if_neg (show ¬ s.l.length = 5 by omega), List.map_append, List.map_cons, List.map_nil, List.map_map]
  rw [hnew]; congr 1; exact range_self.symm
 ·have hn : s.l.length = 5 := by omega
  have hne' : s.l ≠ [] := fun e => by rw [e] at hn; cases hn
  have hlate : ∀ j, j < 5 -> (lastB j 11).ev (envB (fun _ _ _ => 0) d t s ts) = (lastM (s.l.getD j [])).t := fun j hj => lastB_ev hs (by omega) (k := .i64) rfl
  obtain ⟨bs, hbl, hF, hend⟩ := chain_of (ρ := envB (fun _ _ _ => 0) d t s ts) (L := s.l) hn hlate
  have o1 := (old_spec hne').1; have hB := dropB_all bs hbl; unfold dropOk at hB; rw [bAnd] at hB; obtain ⟨hM, hB⟩ := hB; unfold dropBB at hB
  have hrun := chg_B (F := fun _ _ _ => 0) (sp := spMemo (dropC bs)) (g := 64) (args := argsH .var) (p := goodF .var ++ (notFB .var 5 ++ chainL 1 0 bs)) (e := .var 11) (ws := fun _ => ((List.range 5).eraseIdx (endL 1 0 bs)).map WvB.old ++ [WvB.new [E.var]]) (v := fun _ => .int .i64 (.lit 0)) hs hlay hn h0 hd ht (memo_ok mixed okF_ok noSpec_ok hM)
   (fsOk_app hgood (fsOk_app (notFB_ok hs (by omega) (arg_evB 7 (by decide)) (arg_evB 8 (by decide)) (fun j hj => hnot j (by omega))) hF)) (hargs _ (by omega)) hB
  rw [ea] at hrun; refine hrun.mono fun x w' ⟨o, ho, hx, hl, hk'⟩ => ⟨hx, TurnsB.of hs' ?_ hφ hl hk'⟩
  show put d t s.l = (((List.range 5).eraseIdx (endL 1 0 bs)).map WvB.old ++ [WvB.new [E.var]]).map (WvB.view _ s.l); unfold put; rw [hfi]; simp only [if_pos hn, List.map_append, List.map_cons, List.map_nil, List.map_map]; rw [hnew]; refine congrArg (· ++ [[(⟨d, t⟩ : Msg)]]) ?_
  have hmap : ∀ {α γ : Type} (g : α -> γ) (q : List α) (k : Nat), (q.eraseIdx k).map g = (q.map g).eraseIdx k := fun g q => by
   induction q with
   | nil => intro k; rfl
   | cons x q ih => intro k; cases k with
    | zero => rfl
    | succ k => simp [ih]
  rw [hmap, hend]; have := range_self (l := s.l); rw [hn] at this; exact congrArg (fun q => q.eraseIdx (old s.l)) this.symm
theorem hearB_err {win need now : Int} {lv : Value} (hhead : w.heap[b]? = some (.cells #[.int .i64 win, .int .i64 need, lv, .int .i64 now] 121 (0, 0))) (hw : (Lit.int .i64 win).wf = true /\ (Lit.int .i64 need).wf = true /\ (Lit.int .i64 now).wf = true) {d : List Int} {t : Int} (hd : fitsK ks11 d) (ht : (Lit.int .i64 t).wf = true)
  {j : Nat} {c : Int} (hF : SX.FsOk (envR (fun _ _ _ => 0) d t win need now [] [] []) (errF j)) (hB : errBB j c lv = true) :
  Calls Tryz.prog 64 #[ptrV b, .agg (dsVals d).toArray, .int .i64 t] w fun e w' => e = .returned (.int .i64 c) /\ Below w.heap.size w w' := by
 have hh : Heap (envR (fun _ _ _ => 0) d t win need now [] [] []) w (fun i => ∃ k, k < 1 /\ (hdBox lv k).rw = true /\ ((fun _ => (b, 0) : Bm) k).1 = i) (fun _ => (b, 0)) ⟨1, hdBox lv⟩ w :=
  heap_of (fun k hk => by
   show w.heap[b]? = _; rw [hhead]; rfl) (fun j k hj hk _ => by omega) (fun k hk => ⟨hw.1, hw.2.1, trivial, hw.2.2, trivial⟩) (fun k hk ha => by cases ha) (fun k hk => rfl)
 have hr := ((callG_run (gl := []) (keep := noKeep) (fuel := 80) mixed okF_ok noSpec_ok 30 64 (argsH .var) ⟨1, hdBox lv⟩ (errF j) _ w (fun x w' => x = .int .i64 c /\ Below w.heap.size w w') hh hF ⟨(by decide : 0 < 1), dsS_ok (fun i hi => arg_ev i hi) hd, ht, trivial⟩ (fun _ h => by cases h)
  (T.holds_mono (fun o ho β' w' hx hl hs hh hf _ => ?_) (T.all_holds hB))).2).mono fun x w' ⟨y, he, h1, h2⟩ => (⟨by rw [he, h1], h2⟩ : x = Ending.returned (.int .i64 c) /\ Below w.heap.size w w')
 ·have e : SV.evs (envR (fun _ _ _ => 0) d t win need now [] [] []) (fun _ => (b, 0)) (argsH .var) = [ptrV b, .agg (dsVals d).toArray, .int .i64 t] := by
   show [ptrV b, Value.agg (SV.evs _ _ (dsS .var)).toArray, Value.int .i64 t] = _; rw [dsS_ev (fun i hi => arg_ev i hi)]
  rw [e] at hr; exact hr
 ·unfold isLitV at ho
  split at ho
  ·rename_i x hv
   obtain rfl : x = c := by simpa using ho
   refine ⟨by rw [hv]; rfl, ⟨hh.kept.os, hh.kept.tape, hh.kept.output, hh.kept.size, fun i hi => hh.kept.block i hi fun ⟨k, _, hr, _⟩ => by cases hr⟩⟩
  ·cases ho
theorem hearB_any (h : ObB s b φ w) {d : List Int} {t : Int} (hd : fitsK ks11 d) (ht : (Lit.int .i64 t).wf = true) :
  Calls Tryz.prog 64 #[ptrV b, .agg (dsVals d).toArray, .int .i64 t] w fun e w' => e = .returned (.int .i64 (bad s d t)) /\ TurnsB (hear s d t) b φ w w' := by
 have hob := h; obtain ⟨hs, lb0, lc, ts, hlay0, hφ0⟩ := h; obtain ⟨lb, hlay, hbl, h0⟩ := ObB.nilList hlay0; have hφ : ∀ i, φ i ↔ i ∈ blksB s.l b lb ts := fun i => by rw [hbl]; exact hφ0 i
 have hw := st_wf hs
 by_cases hz : bad s d t = 0
 ·rw [hz]
  cases hfi : Frm.find d s.l with
  | some i => exact hearB_found hs hlay hφ h0 hd ht hz hfi
  | none => exact hearB_fresh hs hlay hφ h0 hd ht hz hfi
 ·have e1 : hear s d t = s := by unfold hear; rw [if_neg hz]
  rw [e1]; have hh := hlay.head
  have fin : ∀ j, SX.FsOk (envR (fun _ _ _ => 0) d t s.win s.need s.now [] [] []) (errF j) -> (∀ lv, errBB j (bad s d t) lv = true) -> Calls Tryz.prog 64 #[ptrV b, .agg (dsVals d).toArray, .int .i64 t] w fun e w' => e = .returned (.int .i64 (bad s d t)) /\ TurnsB s b φ w w' := fun j hF hB =>
   (hearB_err hh hw hd ht hF (hB _)).mono fun x w' ⟨h1, h2⟩ => ⟨h1, TurnsB.same hob h2⟩
  have a : ∀ j, j < 11 -> (E.var j).ev (envR (fun _ _ _ => 0) d t s.win s.need s.now [] [] []) = d.getD j 0 := fun j hj => arg_ev j hj
  have e11 : (E.var 11).ev (envR (fun _ _ _ => 0) d t s.win s.need s.now [] [] []) = t := rfl
  have e14 : (E.var 14).ev (envR (fun _ _ _ => 0) d t s.win s.need s.now [] [] []) = s.now := rfl
  have no : ∀ {p : Prop}, ¬ p -> (p ↔ false = true) := fun hp => ⟨fun h => absurd h hp, fun h => Bool.noConfusion h⟩
  have yes : ∀ {p : Prop}, p -> (p ↔ true = true) := fun hp => ⟨fun _ => rfl, fun _ => hp⟩
  by_cases c0 : t < 0
  ·have hb : bad s d t = 3 := by unfold bad; rw [if_pos (.inl c0)]
   refine fin 0 ?_ (by rw [hb]; exact errB_0)
   rw [errF, fsOk_cons, fsOk_nil, lt0_ev, e11, lit_ev]; exact ⟨yes c0, trivial⟩
  ·by_cases c1 : maxSim < t
   ·have hb : bad s d t = 3 := by unfold bad; rw [if_pos (.inr c1)]
    refine fin 1 ?_ (by rw [hb]; exact errB_1)
    unfold maxSim at c1; rw [errF, fsOk_cons, fsOk_cons, fsOk_nil, lt0_ev, lt0_ev, e11, lit_ev, lit_ev]; exact ⟨no c0, yes c1, trivial⟩
   ·by_cases c2 : t < s.now
    ·have hb : bad s d t = 12 := by unfold bad; rw [if_neg (by omega), if_pos c2]
     refine fin 2 ?_ (by rw [hb]; exact errB_2)
     unfold maxSim at c1; rw [errF, fsOk_cons, fsOk_cons, fsOk_cons, fsOk_nil, lt0_ev, lt0_ev, lt0_ev, e11, e14, lit_ev, lit_ev]; exact ⟨no c0, no c1, yes c2, trivial⟩
    ·by_cases c3 : d.getD 7 0 = d.getD 9 0
     ·have hb : bad s d t = 18 := by unfold bad; rw [if_neg (by omega), if_neg c2, if_pos c3]
      refine fin 3 ?_ (by rw [hb]; exact errB_3)
      unfold maxSim at c1; rw [errF, fsOk_cons, fsOk_cons, fsOk_cons, fsOk_cons, fsOk_nil, lt0_ev, lt0_ev, lt0_ev, eqk_ev, a 7 (by decide), a 9 (by decide), e11, e14, lit_ev, lit_ev]
      exact ⟨no c0, no c1, no c2, yes c3, trivial⟩
     ·by_cases c4 : d.getD 6 0 < 32
      ·exact absurd (by unfold bad; rw [if_neg (by omega), if_neg c2, if_neg c3, if_neg (by omega)]) hz
      ·have hb : bad s d t = 3 := by unfold bad; rw [if_neg (by omega), if_neg c2, if_neg c3, if_pos (by omega)]
       refine fin 4 ?_ (by rw [hb]; exact errB_4)
       unfold maxSim at c1; show SX.FsOk _ errF4; rw [errF4, fsOk_cons, fsOk_cons, fsOk_cons, fsOk_cons, fsOk_cons, fsOk_nil, lt0_ev, lt0_ev, lt0_ev, lt0_ev, eqk_ev, a 7 (by decide), a 9 (by decide), a 6 (by decide), e11, e14, lit_ev, lit_ev, lit_ev]
       exact ⟨no c0, no c1, no c2, no c3, no c4, trivial⟩
end
theorem forgBB_all {n : Nat} (h5 : n <= 5) : forgBB n = true := by
 match n, h5 with
 | 0, _ => exact forgBB_0
 | 1, _ => exact forgBB_1
 | 2, _ => exact forgBB_2
 | 3, _ => exact forgBB_3
 | 4, _ => exact forgBB_4
 | 5, _ => exact forgBB_5
theorem qualBB_all {n : Nat} (h5 : n <= 5) : qualBB n = true := by
 match n, h5 with
 | 0, _ => exact qualBB_0
 | 1, _ => exact qualBB_1
 | 2, _ => exact qualBB_2
 | 3, _ => exact qualBB_3
 | 4, _ => exact qualBB_4
 | 5, _ => exact qualBB_5
section
variable {s : FS} {b : Nat} {φ : Nat -> Prop} {w w' : World}
theorem recE_evB {ρ : Env} {s : FS} {t : Int} (hf : ρ.fn = FRB s) {a : E} (ha : a.ev ρ = t) (i : Nat) : (recE i a).ev ρ = (recent s t (s.l.getD i []) : Int) := by
 show ρ.fn 30 0 [Int.ofNat i, a.ev ρ] = _; rw [hf, ha]; rfl
theorem chg_BC {F : Mng} {d : List Int} {t : Int} {ts : Tb} {lb lc n : Nat} {e : E} {sp : Spc} {g : Nat} {args : List SV} {p : Fs} {ws : Out -> List WvB} {v : Out -> SV} {chk : Out -> Bool} (hs : RsOk s) (h : LayB s.win s.need s.now s.l b lb lc ts w) (hn : s.l.length = n) (h0 : s.l = [] -> lb = w.heap.size) (hd : fitsK ks11 d) (ht : (Lit.int .i64 t).wf = true)
  (hsp : SpecOk Tryz.prog (envB F d t s ts) w (fun i => ∃ k, k < 2 + n /\ (boxB n k).rw = true /\ (bmB b lb lc ts k).1 = i) [] sp) (hp : SX.FsOk (envB F d t s ts) p) (hargs : SV.oks (envB F d t s ts) (2 + n) args) (hr : (runB sp g args n p).all (endBC n e ws v chk) = true) :
  Calls Tryz.prog g (SV.evs (envB F d t s ts) (bmB b lb lc ts) args).toArray w fun x w' => ∃ o, SX.FsOk (envB F d t s ts) o.fs /\ chk o = true /\ x = .returned ((v o).ev (envB F d t s ts) β0) /\
   (∃ lb' lc' ts', LayB s.win s.need (e.ev (envB F d t s ts)) ((ws o).map (WvB.view (envB F d t s ts) s.l)) b lb' lc' ts' w' /\ ∀ i ∈ blksB ((ws o).map (WvB.view (envB F d t s ts) s.l)) b lb' ts', i ∈ blksB s.l b lb ts \/ w.heap.size <= i) /\
   Kept w (fun i => i ∈ blksB s.l b lb ts) w' := by
 refine ((callG_run (gl := []) (keep := noKeep) (fuel := 80) mixed okF_ok hsp 30 g args (hpB n) (p ++ factsB n) _ w (fun x w' => ∃ o, SX.FsOk (envB F d t s ts) o.fs /\ chk o = true /\ x = (v o).ev (envB F d t s ts) β0 /\
   (∃ lb' lc' ts', LayB s.win s.need (e.ev (envB F d t s ts)) ((ws o).map (WvB.view (envB F d t s ts) s.l)) b lb' lc' ts' w' /\ ∀ i ∈ blksB ((ws o).map (WvB.view (envB F d t s ts) s.l)) b lb' ts', i ∈ blksB s.l b lb ts \/ w.heap.size <= i) /\
   Kept w (fun i => i ∈ blksB s.l b lb ts) w') (pack_B hs h hn h0) (fsOk_app hp (factsB_ok hs h hn hd ht)) hargs (fun _ h => by cases h)
  (T.holds_mono (fun o ho β' w' hx hl hst hh hf _ => ?_) (T.all_holds hr))).2).mono fun x w' ⟨y, he, o, h1, hc, h2, h3⟩ => ⟨o, h1, hc, by rw [he, h2], h3⟩
 unfold endBC at ho; rw [bOr] at ho; rcases ho with ho | ho
 rotate_left
 ·exact (noWay_spec hf ho).elim
 simp only [bAnd, beq_iff, dEq] at ho; obtain ⟨oc, ⟨⟨o1, o2⟩, o3⟩, o4⟩ := ho; obtain ⟨e1, _⟩ := SV.fit_spec (β := β') (m := o.hp.n) hf _ _ o1; obtain ⟨u1, u2⟩ := unpack_B hs h hn h0 hh hx hst hf o4; rw [zipR_view _ _ _ _ _ o3] at u1 u2; refine ⟨o, hf, oc, ?_, ⟨_, _, _, u1, u2⟩, ⟨hh.kept.os, hh.kept.tape, hh.kept.output, hh.kept.size, fun i hi hn' => hh.kept.block i hi fun hM => hn' (maskB h hn hM)⟩⟩
 rw [e1, SV.ev_flat β0 (fun k => β' (id k)) (v o) o2]
 rfl
theorem forgetB_any (h : ObB s b φ w) {t : Int} (ht : (Lit.int .i64 t).wf = true) :
  Calls Tryz.prog 65 #[ptrV b, .int .i64 t] w fun e w' => e = .returned (.int .i64 (gone s t : Int)) /\ TurnsB (forget s t) b φ w w' := by
 obtain ⟨hs, lb0, lc, ts, hlay0, hφ0⟩ := h; obtain ⟨lb, hlay, hbl, h0⟩ := ObB.nilList hlay0; have hφ : ∀ i, φ i ↔ i ∈ blksB s.l b lb ts := fun i => by rw [hbl]; exact hφ0 i
 have hrun := chg_BC (F := FRB s) (t := t) (e := .var 14) (g := 65) (ws := fun o => (keptI s.l.length o).map WvB.old) (v := fun o => .int .i64 (.lit (Int.ofNat (s.l.length - (keptI s.l.length o).length)))) (chk := fun o => allDec keepE s.l.length o.fs) hs hlay rfl h0 d0_fits ht (spRecB_ok hs rfl) (p := []) (fun _ h => by cases h) (args := argsT) ⟨by show 0 < _; omega, ht, trivial⟩ (forgBB_all hs.five)
 refine hrun.mono fun x w' ⟨o, ho, hc, hx, hl, hk⟩ => ?_
 have hin : ∀ i, i < s.l.length -> isIn keepE true o.fs i = decide (0 < recent s t (s.l.getD i [])) := fun i hi => by
  have h1 := isIn_spec (want := true) ho hc hi
  have h2 : (keepE i).ev (envB (FRB s) d0 t s ts) ≠ 0 ↔ 0 < recent s t (s.l.getD i []) := by
   unfold keepE; rw [lt0_ev, recE_evB rfl (t := t) rfl, lit_ev]; omega
  rw [decide_eq_true_iff, h2] at h1
  by_cases hq : 0 < recent s t (s.l.getD i [])
  ·rw [decide_eq_true hq, h1.2 hq]
  ·rw [decide_eq_false hq]
   cases hz : isIn keepE true o.fs i with
   | false => rfl
   | true => exact absurd (h1.1 hz) hq
 have hkept : (keptI s.l.length o).map (fun i => s.l.getD i []) = Frm.kept s t := filter_range [] (fun r => decide (0 < recent s t r)) s.l s.l.length _ rfl hin
 have hnum : (keptI s.l.length o).length = (Frm.kept s t).length := by rw [<- hkept, List.length_map]
 refine ⟨?_, TurnsB.of (rsOk_forget hs t) ?_ hφ hl hk⟩
 ·rw [hx]
  show Ending.returned (.int .i64 (Int.ofNat (s.l.length - (keptI s.l.length o).length))) = _; rw [hnum]; rfl
 ·show Frm.kept s t = _
  rw [<- hkept, List.map_map]; rfl
theorem sets_evB {ρ : Env} {β : Bm} (g : Nat -> List Int) (q : Nat -> Nat -> E) : ∀ js : List Nat, (∀ i ∈ js, ∀ j, j < 11 -> (q i j).ev ρ = (g i).getD j 0) -> SV.evs ρ β (js.flatMap fun i => dsS (q i)) = ((js.map g).map dsVals).flatten
 | [], _ => rfl
 | i :: js, h => by
  rw [List.flatMap_cons, evs_append, sets_evB g q js fun j hj => h j (lTl _ hj), dsS_ev (h i (lHd ..))]
  rfl
theorem sets_lenB (q : Nat -> Nat -> E) : ∀ js : List Nat, (js.flatMap fun i => dsS (q i)).length = js.length * 11
 | [] => rfl
 | i :: js => by
  rw [List.flatMap_cons, List.length_append, sets_lenB q js, List.length_cons]; show 11 + _ = _; omega
theorem no_objB {n : Nat} : ∀ k, k < (hpB n).n -> ((hpB n).box k).c.isObj = false := fun k hk => by
 rcases boxB_cases (show k < 2 + n from hk) with rfl | rfl | ⟨i, hi, rfl⟩
 ·rfl
 ·by_cases hz : n = 0
  ·subst hz; rfl
  ·show (boxB n 1).c.isObj = false
   rw [boxB_1 (by omega)]; rfl
 ·show (boxB n (2 + i)).c.isObj = false
  rw [boxB_r]; rfl
set_option maxHeartbeats 4000000 in
theorem qualB_any (h : ObB s b φ w) {t : Int} (ht : (Lit.int .i64 t).wf = true) :
  Calls Tryz.prog 96 #[ptrV b, .int .i64 t] w fun e w' => NewSets (qual s t) w w' e /\ Below w.heap.size w w' := by
 obtain ⟨hs, lb0, lc, ts, hlay0, hφ0⟩ := h; obtain ⟨lb, hlay, hbl, h0⟩ := ObB.nilList hlay0; have hh0 := Heap.still_ (pack_B (F := FRB s) (d := d0) (t := t) hs hlay rfl h0) no_objB; have hargs : SV.oks (envB (FRB s) d0 t s ts) (2 + s.l.length) argsT := ⟨by show 0 < _; omega, ht, trivial⟩
 refine ((callG_run (gl := []) (keep := noKeep) (fuel := 80) mixed okF_ok (spRecB_ok hs rfl) 30 96 argsT (still (hpB s.l.length)) ([] ++ factsB s.l.length) _ w
  (fun x w' => NewSets (qual s t) w w' (.returned x) /\ Below w.heap.size w w') hh0 (fsOk_app (fun _ h => by cases h) (factsB_ok hs hlay rfl d0_fits ht)) hargs (fun _ h => by cases h)
  (T.holds_mono (fun o ho β' w' hx hl hst hh hf _ => ?_) (T.all_holds (qualBB_all hs.five)))).2).mono fun x w' ⟨y, he, h1, h2⟩ => ⟨by rw [he]; exact h1, h2⟩
 unfold qualEndB at ho; rw [bAnd] at ho; obtain ⟨hc, ho⟩ := ho; refine ⟨?_, hh.kept.to_below⟩
 have hin : ∀ i, i < s.l.length -> isIn lessF false o.fs i = decide (s.need <= (recent s t (s.l.getD i []) : Int)) := fun i hi => by
  have h1 := isIn_spec (want := false) hf hc hi
  have h2 : (lessF i).ev (envB (FRB s) d0 t s ts) ≠ 0 ↔ (recent s t (s.l.getD i []) : Int) < s.need := by
   unfold lessF; rw [lt0_ev, recE_evB rfl (t := t) rfl]; rfl
  rw [decide_eq_false_iff_not, h2] at h1
  by_cases hq : s.need <= (recent s t (s.l.getD i []) : Int)
  ·rw [decide_eq_true hq, h1.2 (by omega)]
  ·rw [decide_eq_false hq]
   cases hz : isIn lessF false o.fs i with
   | false => rfl
   | true => exact absurd (h1.1 hz) (by omega)
 have hq : (qualI s.l.length o).map (fun i => s.l.getD i []) = quals s t := filter_range [] (fun r => decide (s.need <= (recent s t r : Int))) s.l s.l.length _ rfl hin
 have hqs : qual s t = (qualI s.l.length o).map fun i => (lastM (s.l.getD i [])).d := by
  unfold qual; rw [<- hq, List.map_map]; rfl
 have hmem : ∀ i ∈ qualI s.l.length o, i < s.l.length := fun i hi => mRa.1 (List.mem_filter.1 hi).1
 rw [hqs]; split at ho
 ·rename_i hnil
  rw [hnil]; split at ho
  ·rename_i hv
   rw [hv]; exact .inl ⟨rfl, rfl⟩
  ·cases ho
 ·rename_i i js hcons
  rw [hcons] at hmem ⊢; split at ho
  ·rename_i k m hv
   rw [bAnd, beq_iff, dEq] at ho; obtain ⟨hm, ho⟩ := ho; obtain ⟨c, hk, _⟩ := isCells_spec hh hf ho; unfold isCells at ho; rw [hk] at ho; simp only [bAnd] at ho; obtain ⟨e1, _⟩ := SV.fitL_spec (β := β') (m := o.hp.n) hf _ _ ho.2; rw [envSub_var] at e1; have e1 : SV.evs _ β' c = SV.evs _ β' ((i :: js).flatMap fun i => dsS (lastB i)) := e1
   obtain ⟨rest, r1, r2⟩ := hh.lies k _ hk
   have hlc : c.length = (i :: js).length * 11 := by
    have := congrArg List.length e1; rw [SV.evs_map, SV.evs_map, List.length_map, List.length_map, sets_lenB lastB] at this; exact this
   rw [e1, sets_evB (fun i => (lastM (s.l.getD i [])).d) lastB (i :: js) (fun j hj q hq' => by
    obtain ⟨k', hk'⟩ := msgK_some (g := q) (by omega)
    rw [lastB_ev hs (hmem j hj) hk']; unfold fldM; rw [if_pos hq'])] at r1
   refine .inr ⟨(β' k).1, (β' k).2, rest, by simp, ?_, ?_, r1, ?_⟩
   ·rw [hv]
    show Ending.returned (.slice (some ⟨(β' k).1, 0, none⟩) m (Option.getD none (β' k).2)) = _; rw [hm]; simp [slV]
   ·rcases hh.mine k _ hk rfl rfl with h1 | h1
    ·exact h1.elim
    ·exact h1
   ·rw [List.length_map, <- hlc]; exact r2
  ·cases ho
end
def isNewR2 (a b : E) (hp : Hp) (fs : Fs) : T Out :=
 SX.split fs (lt0 a (.lit 1)) (fun fs => .ok ⟨.raw (.pointer none), hp, fs⟩) fun fs => SX.split fs (lt0 (.lit 1125899906842624) a) (fun fs => .ok ⟨.raw (.pointer none), hp, fs⟩) fun fs =>
  SX.split fs (lt0 b (.lit 1)) (fun fs => .ok ⟨.raw (.pointer none), hp, fs⟩) fun fs => SX.split fs (lt0 (.lit 8) b) (fun fs => .ok ⟨.raw (.pointer none), hp, fs⟩) fun fs => .ok ⟨.ptr hp.n 0, hp.push ⟨true, .obj 2 [newE a b]⟩, fs⟩
def spHear2 : SpcT := fun f args hp fs => match args with
 | [.ptr k 0, .agg ss, .int .i64 t] => if f = 64 then (match objOf 2 hp k, takeK ks11 ss with
  | some x, some es => some (SX.split fs (eq0 (badE (canon fs x) (canons fs es) (canon fs t)) (.lit 0))
    (fun fs' => .ok ⟨.int .i64 (.lit 0), hp.put k ⟨true, .obj 2 [hearE (canon fs x) (canons fs es) (canon fs t)]⟩, fs'⟩)
    (fun fs' => .ok ⟨.int .i64 (badE (canon fs x) (canons fs es) (canon fs t)), hp.put k ⟨true, .obj 2 [canon fs x]⟩, fs'⟩))
  | _, _ => none) else none
 | _ => none
def spQual2 : SpcT := fun f args hp fs => match args with
 | [.ptr k 0, .int .i64 t] => if f = 96 then (match objOf 2 hp k with
  | some x => some (qualT hp (canon fs x) (canon fs t) 5 0 fs)
  | none => none)
  else if f = 65 then (match objOf 2 hp k with
  | some x => some (.ok ⟨.int .i64 (goneE (canon fs x) (canon fs t)), hp.put k ⟨true, .obj 2 [forgE (canon fs x) (canon fs t)]⟩, fs⟩)
  | none => none) else none
 | _ => none
def spNew2 : SpcT := fun f args hp fs => match args with
 | [.int .i64 a, .int .i64 b] => if f = 28 then some (isNewR2 (canon fs a) (canon fs b) hp fs) else none
 | _ => none
section
variable {ρ : Env} {w0 w : World} {M : Nat -> Prop} {gl : Gl} {β : Bm} {hp : Hp} {fs : Fs}
theorem obj_recs2 {φ : Nat -> Nat -> Prop} (ho : ObjsOk ρ w0 M β hp φ w) {k : Nat} {x : E} (hk : objOf 2 hp k = some x) : ObB (dec (x.ev ρ)) (β k).1 (φ k) w /\ code (dec (x.ev ρ)) = x.ev ρ := by
 have h := ho.has k _ 2 [x] (objOf_spec hk) rfl; obtain ⟨s, hs, h2⟩ : ∃ s, code s = x.ev ρ /\ ObB s (β k).1 (φ k) w := h; rw [<- hs, dec_code]; exact ⟨h2, rfl⟩
theorem turn_out2 {φ : Nat -> Nat -> Prop} {w' : World} {k : Nat} {x y : E} {s' : FS} (hh : Heap ρ w0 M β hp w) (ho : ObjsOk ρ w0 M β hp φ w) (hk : objOf 2 hp k = some x) (hT : TurnsB s' (β k).1 (φ k) w w') (hy : y.ev ρ = code s') : Heap ρ w0 M β (hp.put k ⟨true, .obj 2 [y]⟩) w' := by
 obtain ⟨φ', h1, h2, h3⟩ := hT; refine Heap.turn_ hh ho (objOf_spec hk) (φ' := φ') ?_ h2 h3; exact (⟨s', hy.symm, h1⟩ : ∃ s, code s = y.ev ρ /\ ObB s (β k).1 φ' w')
theorem spHear2_ok (hf : Low ρ.fn) : SpecOkT Tryz.prog ρ w0 M gl spHear2 := fun f args hp fs t ht β w K hh hfs ha hg hK => by
 unfold spHear2 at ht; split at ht
 ·rename_i k ss tm
  split at ht
  ·rename_i hfe
   subst hfe; split at ht
   ·rename_i x es hx hes
    obtain rfl := sinj ht; obtain ⟨φ, ho⟩ := hh.objs; obtain ⟨hob, hc⟩ := obj_recs2 ho hx; obtain ⟨t1, t2, t3⟩ := takeK_spec (β := β) hes ha.2.1
    have hargs : SV.evs ρ β [.ptr k 0, .agg ss, .int .i64 tm] = [ptrV (β k).1, .agg (dsVals (E.evs ρ es)).toArray, .int .i64 (tm.ev ρ)] := by
     simp only [SV.evs, SV.ev, t1]; rfl
    rw [hargs]; have hl : (canons fs es).length = 11 := by unfold canons; rw [List.length_map, t3]; rfl
    have hbad : (badE (canon fs x) (canons fs es) (canon fs tm)).ev ρ = bad (dec (x.ev ρ)) (E.evs ρ es) (tm.ev ρ) := by rw [badE_ev hf hl, canons_ev hfs, canon_ev hfs, canon_ev hfs]
    obtain ⟨fs', hf', hc2⟩ := split_holds hfs hK; rcases hc2 with ⟨c, h2⟩ | ⟨c, h2⟩
    ·have hz : bad (dec (x.ev ρ)) (E.evs ρ es) (tm.ev ρ) = 0 := by rw [<- hbad]; exact (eqk_ev (ρ := ρ) .i64 _ (.lit 0)).1 c
     refine (hearB_any hob t2 ha.2.2.1).mono fun e w' ⟨he, hT⟩ => ⟨_, ?_, h2 β w' (Ext.refl _ _) (Nat.le_refl _) (stay_put (objOf_spec hx)) (turn_out2 hh ho hx hT ?_) hf' (by show (Lit.int .i64 0).wf = true; decide)⟩
     ·rw [he, hz]; rfl
     ·rw [hearE_ev hf hl, canons_ev hfs, canon_ev hfs, canon_ev hfs]
    ·have hz : bad (dec (x.ev ρ)) (E.evs ρ es) (tm.ev ρ) ≠ 0 := fun e => (eqk_ev (ρ := ρ) .i64 (badE (canon fs x) (canons fs es) (canon fs tm)) (.lit 0)).2 (by rw [hbad, e]; rfl) c
     have hsame : hear (dec (x.ev ρ)) (E.evs ρ es) (tm.ev ρ) = dec (x.ev ρ) := by unfold hear; rw [if_neg hz]
     refine (hearB_any hob t2 ha.2.2.1).mono fun e w' ⟨he, hT⟩ => ⟨_, ?_, h2 β w' (Ext.refl _ _) (Nat.le_refl _) (stay_put (objOf_spec hx)) (turn_out2 hh ho hx hT ?_) hf' ?_⟩
     ·rw [he]
      show Ending.returned (.int .i64 _) = Ending.returned (.int .i64 ((badE _ _ _).ev ρ)); rw [hbad]
     ·rw [canon_ev hfs, hsame, hc]
     ·show (Lit.int .i64 ((badE _ _ _).ev ρ)).wf = true
      rw [hbad]; unfold bad
      repeat' split
      all_goals decide
   ·cases ht
  ·cases ht
 ·cases ht
theorem spQual2_ok (hf : Low ρ.fn) : SpecOkT Tryz.prog ρ w0 M gl spQual2 := fun f args hp fs t ht β w K hh hfs ha hg hK => by
 unfold spQual2 at ht; split at ht
 ·rename_i k tm
  split at ht
  ·rename_i hfe
   subst hfe; split at ht
   ·rename_i x hx
    obtain rfl := sinj ht; obtain ⟨φ, ho⟩ := hh.objs; obtain ⟨hob, hc⟩ := obj_recs2 ho hx; have hqn : (qnE (canon fs x) (canon fs tm)).ev ρ = ((qual (dec (x.ev ρ)) (tm.ev ρ)).length : Int) := by rw [qnE_ev hf, canon_ev hfs, canon_ev hfs]
    obtain ⟨fs', hf', hQ⟩ := qualT_run hqn 5 0 fs hfs (Nat.zero_le _) (by have := qual_five hob.1 (tm.ev ρ); omega) hK
    exact (qualB_any hob ha.2.1).mono fun e w' ⟨hs, hb⟩ => newSets_out hh hs hb (qual_fits hob.1 _) (fun i j => by rw [qfE_ev hf, canon_ev hfs, canon_ev hfs]) hf' hQ
   ·cases ht
  ·split at ht
   ·rename_i hfe
    subst hfe; split at ht
    ·rename_i x hx
     obtain rfl := sinj ht; obtain ⟨φ, ho⟩ := hh.objs; obtain ⟨hob, hc⟩ := obj_recs2 ho hx; have h5 := hob.1.five; refine (forgetB_any hob ha.2.1).mono fun e w' ⟨he, hT⟩ => ⟨_, ?_, hK β w' (Ext.refl _ _) (Nat.le_refl _) (stay_put (objOf_spec hx)) (turn_out2 hh ho hx hT ?_) hfs ?_⟩
     ·rw [he]
      show Ending.returned (.int .i64 _) = Ending.returned (.int .i64 ((goneE _ _).ev ρ)); rw [goneE_ev hf, canon_ev hfs, canon_ev hfs]
     ·rw [forgE_ev hf, canon_ev hfs, canon_ev hfs]
     ·show (Lit.int .i64 ((goneE _ _).ev ρ)).wf = true
      rw [goneE_ev hf, canon_ev hfs, canon_ev hfs]; unfold gone; exact wfI (by omega)
    ·cases ht
   ·cases ht
 ·cases ht
def nilBB (j : Nat) : Bool := (callG Tryz.prog [] okF noSpec noKeep 80 30 28 [.int .i64 (.var 12), .int .i64 (.var 13)] .nil (nilF j)).all isNilP
theorem nilBB_runs : upTo 3 nilBB = true := by kernel_rfl
theorem newB_nil {win need : Int} (h1 : (Lit.int .i64 win).wf = true) (h2 : (Lit.int .i64 need).wf = true) (h : badNew win need) : Calls Tryz.prog 28 #[.int .i64 win, .int .i64 need] w fun e w' => e = .returned (.pointer none) /\ Below w.heap.size w w' := by
 have go : ∀ j, j <= 3 -> SX.FsOk (envR (fun _ _ _ => 0) d0 0 win need 0 [] [] []) (nilF j) -> Calls Tryz.prog 28 #[.int .i64 win, .int .i64 need] w fun e w' => e = .returned (.pointer none) /\ Below w.heap.size w w' := fun j hj hF => by
  have hr := upTo_spec nilBB_runs hj
  refine ((callG_run (gl := []) (keep := noKeep) (fuel := 80) mixed okF_ok noSpec_ok 30 28 [.int .i64 (.var 12), .int .i64 (.var 13)] .nil (nilF j) β0 w
   (fun x w' => x = .pointer none /\ Below w.heap.size w w') (heap_nil _ _ (fun _ => False) _) hF ⟨h1, h2, trivial⟩ (fun _ h => by cases h)
   (T.holds_mono (fun o ho β' w' hx hl hst hh hf _ => ?_) (T.all_holds hr))).2).mono fun x w' ⟨y, he, h1, h2⟩ => ⟨by rw [he, h1], h2⟩
  unfold isNilP at ho; split at ho
  ·rename_i hv
   exact ⟨by rw [hv]; rfl, hh.kept.to_below⟩
  ·cases ho
 have e12 : (E.var 12).ev (envR (fun _ _ _ => 0) d0 0 win need 0 [] [] []) = win := rfl
 have e13 : (E.var 13).ev (envR (fun _ _ _ => 0) d0 0 win need 0 [] [] []) = need := rfl
 have no : ∀ {p : Prop}, ¬ p -> (p ↔ false = true) := fun hp => ⟨fun h => absurd h hp, fun h => Bool.noConfusion h⟩
 have yes : ∀ {p : Prop}, p -> (p ↔ true = true) := fun hp => ⟨fun _ => rfl, fun _ => hp⟩
 unfold badNew maxSim at h
 by_cases c0 : win < 1
 ·refine go 0 (by decide) ?_
  show SX.FsOk _ [(lt0 (.var 12) (.lit 1), true)]; rw [fsOk_cons, fsOk_nil, lt0_ev, e12, lit_ev]; exact ⟨yes c0, trivial⟩
 ·by_cases c1 : 1125899906842624 < win
  ·refine go 1 (by decide) ?_
   show SX.FsOk _ [(lt0 (.var 12) (.lit 1), false), (lt0 (.lit 1125899906842624) (.var 12), true)]; rw [fsOk_cons, fsOk_cons, fsOk_nil, lt0_ev, lt0_ev, e12, lit_ev, lit_ev]; exact ⟨no c0, yes c1, trivial⟩
  ·by_cases c2 : need < 1
   ·refine go 2 (by decide) ?_
    show SX.FsOk _ [(lt0 (.var 12) (.lit 1), false), (lt0 (.lit 1125899906842624) (.var 12), false), (lt0 (.var 13) (.lit 1), true)]; rw [fsOk_cons, fsOk_cons, fsOk_cons, fsOk_nil, lt0_ev, lt0_ev, lt0_ev, e12, e13, lit_ev, lit_ev]; exact ⟨no c0, no c1, yes c2, trivial⟩
   ·refine go 3 (by decide) ?_
    show SX.FsOk _ [(lt0 (.var 12) (.lit 1), false), (lt0 (.lit 1125899906842624) (.var 12), false), (lt0 (.var 13) (.lit 1), false), (lt0 (.lit 8) (.var 13), true)]; rw [fsOk_cons, fsOk_cons, fsOk_cons, fsOk_cons, fsOk_nil, lt0_ev, lt0_ev, lt0_ev, lt0_ev, e12, e13, lit_ev, lit_ev, lit_ev]; exact ⟨no c0, no c1, no c2, yes (by omega), trivial⟩
theorem newB_any {win need : Int} (hw : 1 <= win /\ win <= maxSim) (hn : 1 <= need /\ need <= 8) : Calls Tryz.prog 28 #[.int .i64 win, .int .i64 need] w fun e w' => ∃ b φ, e = .returned (ptrV b) /\ ObB (newS win need) b φ w' /\ (∀ i, φ i -> w.heap.size <= i) /\ Below w.heap.size w w' := by
 have h1 : (Lit.int .i64 win).wf = true := by unfold maxSim at hw; exact wfI (by omega)
 have h2 : (Lit.int .i64 need).wf = true := wfI (by omega)
 have hF : SX.FsOk (envR (fun _ _ _ => 0) d0 0 win need 0 [] [] []) newF := by
  unfold maxSim at hw; have e12 : (E.var 12).ev (envR (fun _ _ _ => 0) d0 0 win need 0 [] [] []) = win := rfl
  have e13 : (E.var 13).ev (envR (fun _ _ _ => 0) d0 0 win need 0 [] [] []) = need := rfl
  rw [newF, fsOk_cons, fsOk_cons, fsOk_cons, fsOk_cons, fsOk_nil, lt0_ev, lt0_ev, lt0_ev, lt0_ev, e12, e13, lit_ev, lit_ev, lit_ev]; exact ⟨⟨fun h => by omega, fun h => Bool.noConfusion h⟩, ⟨fun h => by omega, fun h => Bool.noConfusion h⟩, ⟨fun h => by omega, fun h => Bool.noConfusion h⟩, ⟨fun h => by omega, fun h => Bool.noConfusion h⟩, trivial⟩
 refine ((callG_run (gl := []) (keep := noKeep) (fuel := 80) mixed okF_ok noSpec_ok 30 28 [.int .i64 (.var 12), .int .i64 (.var 13)] .nil newF β0 w
  (fun x w' => ∃ b φ, x = ptrV b /\ ObB (newS win need) b φ w' /\ (∀ i, φ i -> w.heap.size <= i) /\ Below w.heap.size w w') (heap_nil _ _ (fun _ => False) _) hF ⟨h1, h2, trivial⟩ (fun _ h => by cases h)
  (T.holds_mono (fun o ho β' w' hx hl hst hh hf _ => ?_) (T.all_holds newBB_run))).2).mono fun x w' ⟨y, he, b, φ, h1, h2⟩ => ⟨b, φ, by rw [he, h1], h2⟩
 unfold newEndB at ho; split at ho
 ·rename_i k hv
  have hl := isCells_lies hh hf ho; obtain ⟨c, hk, _⟩ := isCells_spec hh hf ho; refine ⟨(β' k).1, fun i => i = (β' k).1, (by rw [hv]; rfl), ⟨newS_ok hw hn, 0, 0, [], ⟨rfl, hl, fun h => absurd rfl h, fun i r t h => (by simp [newS] at h), (by simp [newS])⟩, fun i => ?_⟩, fun i hi => ?_, hh.kept.to_below⟩
  ·show i = (β' k).1 ↔ i ∈ blksB [] (β' k).1 0 []
   simp [blksB]
  ·subst hi
   rcases hh.mine k _ hk rfl rfl with h | h
   ·exact h.elim
   ·exact h
 ·cases ho
theorem spNew2_ok (hf : Low ρ.fn) : SpecOkT Tryz.prog ρ w0 M gl spNew2 := fun f args hp fs t ht β w K hh hfs ha hg hK => by
 unfold spNew2 at ht; split at ht
 ·rename_i a b
  split at ht
  ·rename_i hfe
   subst hfe; obtain rfl := sinj ht; have ca := canon_ev hfs a; have cb := canon_ev hfs b
   have hnil : badNew (a.ev ρ) (b.ev ρ) -> (∀ (β' : Bm) (w' : World), Ext hp.n β β' -> hp.n <= hp.n -> Stay hp hp -> Heap ρ w0 M β' hp w' -> K (.pointer none) w') -> Calls Tryz.prog 28 (SV.evs ρ β [.int .i64 a, .int .i64 b]).toArray w fun e w' => ∃ v, e = .returned v /\ K v w' := fun hb hk =>
    (newB_nil ha.1 ha.2.1 hb).mono fun e w' ⟨he, hb⟩ => ⟨_, he, hk β w' (Ext.refl _ _) (Nat.le_refl _) (Stay.refl _) (hh.below hb)⟩
   unfold isNewR2 at hK; obtain ⟨fs1, hf1, h1⟩ := split_holds hfs hK; rcases h1 with ⟨c1, h1⟩ | ⟨c1, h1⟩
   ·rw [lt0_ev, ca, lit_ev] at c1
    exact hnil (.inl c1) fun β' w' p1 p2 p3 p4 => h1 β' w' p1 p2 p3 p4 hf1 trivial
   have c1' : ¬ a.ev ρ < 1 := fun e => (lt0_ev (ρ := ρ) (canon fs a) (.lit 1)).2 (by rw [ca]; exact e) c1
   obtain ⟨fs2, hf2, h2⟩ := split_holds hf1 h1; rcases h2 with ⟨c2, h2⟩ | ⟨c2, h2⟩
   ·rw [lt0_ev, ca, lit_ev] at c2
    exact hnil (.inr (.inl c2)) fun β' w' p1 p2 p3 p4 => h2 β' w' p1 p2 p3 p4 hf2 trivial
   have c2' : ¬ 1125899906842624 < a.ev ρ := fun e => (lt0_ev (ρ := ρ) (.lit 1125899906842624) (canon fs a)).2 (by rw [ca]; exact e) c2
   obtain ⟨fs3, hf3, h3⟩ := split_holds hf2 h2; rcases h3 with ⟨c3, h3⟩ | ⟨c3, h3⟩
   ·rw [lt0_ev, cb, lit_ev] at c3
    exact hnil (.inr (.inr (.inl c3))) fun β' w' p1 p2 p3 p4 => h3 β' w' p1 p2 p3 p4 hf3 trivial
   have c3' : ¬ b.ev ρ < 1 := fun e => (lt0_ev (ρ := ρ) (canon fs b) (.lit 1)).2 (by rw [cb]; exact e) c3
   obtain ⟨fs4, hf4, h4⟩ := split_holds hf3 h3; rcases h4 with ⟨c4, h4⟩ | ⟨c4, h4⟩
   ·rw [lt0_ev, cb, lit_ev] at c4
    exact hnil (.inr (.inr (.inr c4))) fun β' w' p1 p2 p3 p4 => h4 β' w' p1 p2 p3 p4 hf4 trivial
   have c4' : ¬ 8 < b.ev ρ := fun e => (lt0_ev (ρ := ρ) (.lit 8) (canon fs b)).2 (by rw [cb]; exact e) c4
   refine (newB_any (win := a.ev ρ) (need := b.ev ρ) (by unfold maxSim; omega) (by omega)).mono fun e w' ⟨blk, φ', he, hob, hφ, hb⟩ => ⟨_, he, ?_⟩
   have hev : (newE (canon fs a) (canon fs b)).ev ρ = code (newS (a.ev ρ) (b.ev ρ)) := by rw [newE_ev hf, ca, cb]
   have hob' : Ob 2 (E.evs ρ [newE (canon fs a) (canon fs b)]) blk φ' w' := (⟨_, hev.symm, hob⟩ : ∃ s, code s = (newE (canon fs a) (canon fs b)).ev ρ /\ ObB s blk φ' w'); have := h4 (upd β hp.n (blk, 0)) w' (upd_ext _ _ _) (by simp) (Stay.push _ _) (Heap.newObj hh hb hob' hφ) hf4 (by show hp.n < _; simp)
   have e2 : SV.ev ρ (upd β hp.n (blk, 0)) (SV.ptr hp.n 0) = ptrV blk := by
    show Value.pointer (some ⟨(upd β hp.n (blk, 0) hp.n).1, 0, none⟩) = _; rw [upd_same]; rfl
   rw [e2] at this; exact this
  ·cases ht
 ·cases ht
end
def spF2 : SpcT := orT spHear2 (orT spQual2 spNew2)
theorem spF2_ok {ρ : Env} {w0 : World} {M : Nat -> Prop} {gl : Gl} (hf : Low ρ.fn) : SpecOkT Tryz.prog ρ w0 M gl spF2 := orT_ok (spHear2_ok hf) (orT_ok (spQual2_ok hf) (spNew2_ok hf))
def spLess2 : Spc := fun f args hp fs => match args with
 | [.agg a, .agg b] => if f = 97 then (match takeK ks11 a, takeK ks11 b with
  | some x, some y => some ⟨.bool (lessE (canons fs x) (canons fs y)), hp, fs⟩
  | _, _ => none) else none
 | _ => none
theorem spLess2_ok {ρ : Env} {w0 : World} {M : Nat -> Prop} {gl : Gl} (hf : Low ρ.fn) : SpecOk Tryz.prog ρ w0 M gl spLess2 := fun f args hp fs o h β w hh hfs ha hg => by
 unfold spLess2 at h; split at h
 ·rename_i a b
  split at h
  ·rename_i hfe
   subst hfe; split at h
   ·rename_i x y hx hy
    obtain rfl := sinj h; obtain ⟨a1, a2, a3⟩ := takeK_spec (β := β) hx ha.1; obtain ⟨b1, b2, b3⟩ := takeK_spec (β := β) hy ha.2.1
    have hargs : SV.evs ρ β [.agg a, .agg b] = [.agg (dsVals (E.evs ρ x)).toArray, .agg (dsVals (E.evs ρ y)).toArray] := by
     simp only [SV.evs, SV.ev, a1, b1]; rfl
    rw [hargs]; refine (r_less_any (dsOf (E.evs ρ x)) (dsOf (E.evs ρ y)) w).mono fun e w' ⟨he, hb⟩ => ⟨β, Ext.refl _ _, Nat.le_refl _, Stay.refl _, hh.below hb, hfs, trivial, ?_⟩
    rw [he]; show Ending.returned (.bool (decide (DsLaw.lt (dsOf (E.evs ρ x)) (dsOf (E.evs ρ y))))) = Ending.returned (.bool (decide ((lessE _ _).ev ρ ≠ 0))); congr 2; have hl : ∀ (z : List E) (h : z.length = ks11.length), (canons fs z).length = 11 := fun z h => by unfold canons; rw [List.length_map, h]; rfl
    have := lessE_ev hf (hl x a3) (hl y b3); rw [canons_ev hfs, canons_ev hfs] at this; have e2 : ltB (E.evs ρ x) (E.evs ρ y) = decide (DsLaw.lt (dsOf (E.evs ρ x)) (dsOf (E.evs ρ y))) := rfl
    by_cases hl : DsLaw.lt (dsOf (E.evs ρ x)) (dsOf (E.evs ρ y))
    ·rw [decide_eq_true hl, decide_eq_true (this.2 (by rw [e2]; exact decide_eq_true hl))]
    ·rw [decide_eq_false hl, decide_eq_false (fun h => hl (of_decide_eq_true (e2 ▸ this.1 h)))]
   ·cases h
  ·cases h
 ·cases h
def spBin2 : SpcT := orT spF2 (ofSpc spLess2)
def bestHp2 : Hp := ⟨1, fun _ => ⟨true, .obj 2 [.var 0]⟩⟩
def bestEnd2 (o : Out) : Bool :=
 (match o.hp.at 0 with
  | some ⟨true, .obj 2 [.var 0]⟩ => true
  | _ => false) && (match numQ o.fs with
  | some 0 => SV.fit o.fs (fun i => .var i) id o.hp.n (.tuple [.agg zeroS, .bool (.lit 0)]) o.v
  | some (m + 1) => (match bestF o.fs 0 (List.range' 1 m) with
   | some i => SV.fit o.fs (fun i => .var i) id o.hp.n (.tuple [.agg (dsS (qfE (.var 0) (.var 1) i)), .bool (.lit 1)]) o.v
   | none => false)
  | none => false)
def bestT2 : T Out := callH Tryz.prog [] okF spBin2 noKeep 80 30 66 [.ptr 0 0, .int .i64 (.var 1)] bestHp2 [rngV 1]
theorem best_run2 : bestT2.all bestEnd2 = true := by kernel_rfl
theorem spBin2_ok {ρ : Env} {w0 : World} {M : Nat -> Prop} {gl : Gl} (hf : Low ρ.fn) : SpecOkT Tryz.prog ρ w0 M gl spBin2 := orT_ok (spF2_ok hf) (ofSpc_ok (spLess2_ok hf))
section
variable {s : FS} {b : Nat} {φ : Nat -> Prop} {w w' : World}
theorem bestB_any (h : ObB s b φ w) {t : Int} (ht : (Lit.int .i64 t).wf = true) :
  Calls Tryz.prog 66 #[ptrV b, .int .i64 t] w fun e w' => e = .returned (bestV (qual s t)) /\ TurnsB s b φ w w' := by
 have hOb : Ob 2 [code s] b φ w := (⟨s, rfl, h⟩ : ∃ s', code s' = code s /\ ObB s' b φ w)
 have key0 : ∀ (k : Nat) (x : Box), bestHp2.at k = some x -> k = 0 /\ x = ⟨true, .obj 2 [.var 0]⟩ := fun k x hk => by
  obtain ⟨h1, h2⟩ := Hp.at_some.1 hk; exact ⟨by have : k < 1 := h1; omega, h2.symm⟩
 have hh : Heap (envOf FN [code s, t]) w φ (fun _ => (b, 0)) bestHp2 w := by
  refine ⟨fun k x hk => ?_, fun j k x y hj hk hx _ _ => ?_, fun k x hk _ hx => ?_, fun k x hk => ?_, Kept.refl w φ, fun k x hk hx => ?_, fun _ => φ, fun k x q es hk e => ?_, fun k x hk _ i hi => .inl hi, fun j k x y hj hk _ hjk => ?_⟩
  ·obtain ⟨rfl, rfl⟩ := key0 k x hk; trivial
  ·obtain ⟨rfl, rfl⟩ := key0 j x hj; cases hx
  ·obtain ⟨rfl, rfl⟩ := key0 k x hk; cases hx
  ·obtain ⟨rfl, rfl⟩ := key0 k x hk; trivial
  ·obtain ⟨rfl, rfl⟩ := key0 k x hk; cases hx
  ·obtain ⟨rfl, rfl⟩ := key0 k x hk
   cases e; exact hOb
  ·exact absurd ((key0 j x hj).1.trans (key0 k y hk).1.symm) hjk
 have hF : SX.FsOk (envOf FN [code s, t]) [rngV 1] := by
  rw [fsOk_one]; have := (wf_iff .i64 t).1 ht; show (if IntKind.i64.min <= t /\ t <= IntKind.i64.max then (1 : Int) else 0) ≠ 0 ↔ _
  rw [if_pos this]; exact ⟨fun _ => rfl, fun _ => by decide⟩
 have hB := best_run2; unfold bestT2 at hB; have ha : SV.oks (envOf FN [code s, t]) bestHp2.n [.ptr 0 0, .int .i64 (.var 1)] := ⟨Nat.lt_succ_self 0, ht, trivial⟩; have hC := callH_run (gl := []) (keep := noKeep) (fuel := 80) mixed okF_ok (spBin2_ok (ρ := envOf FN [code s, t]) (w0 := w) (M := φ) (gl := []) (fun _ _ => rfl)) 30
 have hD := hC 66 [.ptr 0 0, .int .i64 (.var 1)] bestHp2 [rngV 1] (fun _ => (b, 0)) w (fun x w' => x = bestV (qual s t) /\ TurnsB s b φ w w') hh hF ha (fun _ h => by cases h)
 have ea : SV.evs (envOf FN [code s, t]) (fun _ => (b, 0)) [.ptr 0 0, .int .i64 (.var 1)] = [ptrV b, .int .i64 t] := rfl
 rw [ea] at hD; refine (hD (T.holds_mono (fun o ho β' w' hx hl hst hh' hf _ => ?_) (T.all_holds hB))).2.mono fun x w' ⟨y, he, h1, h2⟩ => ⟨by rw [he, h1], h2⟩
 unfold bestEnd2 at ho; rw [bAnd] at ho; obtain ⟨o1, o2⟩ := ho
 have hturn : TurnsB s b φ w w' := by
  split at o1
  ·rename_i hat
   obtain ⟨φ2, ho2⟩ := hh'.objs; have hb0 : β' 0 = (b, 0) := hx 0 (by decide)
   have h1 := ho2.has 0 _ 2 [.var 0] hat rfl; obtain ⟨s', hs', h2⟩ : ∃ s', code s' = code s /\ ObB s' (β' 0).1 (φ2 0) w' := h1; obtain rfl := code_inj hs'; rw [hb0] at h2; exact ⟨φ2 0, h2, fun i hi => ho2.own 0 _ hat rfl i hi, hh'.kept⟩
  ·cases o1
 refine ⟨?_, hturn⟩; have hfit := qual_fits h.1 t
 have hqn : ∀ m, numQ o.fs = some m -> (qual s t).length = m := fun m hm => by
  have h1 := List.find?_some hm; have h2 : decideE o.fs (eq0 (qnE (.var 0) (.var 1)) (litN m)) = some true := by simpa using h1
  have h3 := (eqk_ev (ρ := envOf FN [code s, t]) .i64 (qnE (.var 0) (.var 1)) (litN m)).1 (of_decide_eq_true (decideE_spec hf h2)); rw [qnE_ev (fun _ _ => rfl)] at h3
  have h4 : ((qual (dec (code s)) t).length : Int) = m := h3; rw [dec_code] at h4; omega
 have hqf : ∀ i j, (qfE (.var 0) (.var 1) i j).ev (envOf FN [code s, t]) = ((qual s t).getD i []).getD j 0 := fun i j => by
  rw [qfE_ev (fun _ _ => rfl)]
  show ((qual (dec (code s)) t).getD i []).getD j 0 = _; rw [dec_code]
 have hq : ∀ i, i < (qual s t).length -> E.evs (envOf FN [code s, t]) (qfs i) = (qual s t).getD i [] := fun i hi => by
  have hlen : ((qual s t).getD i []).length = 11 := fits_len (hfit _ (getD_mem hi))
  have e1 : ∀ js : List Nat, E.evs (envOf FN [code s, t]) (js.map fun j => qfE (.var 0) (.var 1) i j) = js.map fun j => ((qual s t).getD i []).getD j 0 := fun js => by
   induction js with
   | nil => rfl
   | cons j js ih => simp only [List.map_cons, E.evs, ih, hqf]
  unfold qfs; rw [e1, range11_self hlen]
 split at o2
 ·rename_i hm
  have h0 : qual s t = [] := List.length_eq_zero_iff.1 (hqn 0 hm); obtain ⟨e1, _⟩ := SV.fit_spec (β := β') (m := o.hp.n) hf _ _ o2; rw [e1, envSub_var, h0]; rfl
 ·rename_i m hm
  have hm' := hqn (m + 1) hm; split at o2
  ·rename_i i hi
   obtain ⟨e1, _⟩ := SV.fit_spec (β := β') (m := o.hp.n) hf _ _ o2; obtain ⟨b1, b2⟩ := bestF_spec (fun _ _ => rfl) hf hq (List.range' 1 m) 0 i (by omega) (fun j hj => by have := List.mem_range'.1 hj; omega) hi
   have hne : qual s t ≠ [] := fun e => by rw [e] at hm'; cases hm'
   have hbd : bestD (qual s t) = (qual s t).getD i [] := by
    unfold bestD bestK; rw [if_neg hne, hm', b1]; rfl
   rw [e1, envSub_var]; show Value.tuple #[.agg (SV.evs _ _ (dsS (qfE (.var 0) (.var 1) i))).toArray, .bool true] = _; rw [dsS_ev fun j hj => hqf i j]
   unfold bestV; rw [hbd, decide_eq_true hne]
  ·cases o2
 ·cases o2
end
def spBest2 : SpcT := fun f args hp fs => match args with
 | [.ptr k 0, .int .i64 t] => if f = 66 then (match objOf 2 hp k with
  | some x => some (.ok ⟨.tuple [.agg (dsS (bstE (canon fs x) (canon fs t))), .bool (bokE (canon fs x) (canon fs t))], hp.put k ⟨true, .obj 2 [canon fs x]⟩, fs⟩)
  | none => none) else none
 | _ => none
theorem spBest2_ok {ρ : Env} {w0 : World} {M : Nat -> Prop} {gl : Gl} (hf : Low ρ.fn) : SpecOkT Tryz.prog ρ w0 M gl spBest2 := fun f args hp fs t ht β w K hh hfs ha hg hK => by
 unfold spBest2 at ht; split at ht
 ·rename_i k tm
  split at ht
  ·rename_i hfe
   subst hfe; split at ht
   ·rename_i x hx
    obtain rfl := sinj ht; obtain ⟨φ, ho⟩ := hh.objs; obtain ⟨hob, hc⟩ := obj_recs2 ho hx; have e1 : ∀ j, (bstE (canon fs x) (canon fs tm) j).ev ρ = (bestD (qual (dec (x.ev ρ)) (tm.ev ρ))).getD j 0 := fun j => by rw [bstE_ev hf, canon_ev hfs, canon_ev hfs]
    have e2 := bokE_ev hf (canon fs x) (canon fs tm); rw [canon_ev hfs, canon_ev hfs] at e2
    have hval : ∀ β', (SV.tuple [.agg (dsS (bstE (canon fs x) (canon fs tm))), .bool (bokE (canon fs x) (canon fs tm))]).ev ρ β' = bestV (qual (dec (x.ev ρ)) (tm.ev ρ)) := fun β' => by
     show Value.tuple #[.agg (SV.evs ρ β' (dsS (bstE (canon fs x) (canon fs tm)))).toArray, .bool (decide ((bokE (canon fs x) (canon fs tm)).ev ρ ≠ 0))] = _; rw [dsS_ev fun j _ => e1 j]
     unfold bestV; rw [show decide ((bokE (canon fs x) (canon fs tm)).ev ρ ≠ 0) = decide (qual (dec (x.ev ρ)) (tm.ev ρ) ≠ []) from decide_eq_decide.2 e2]
    have hok : SV.oks ρ hp.n (dsS (bstE (canon fs x) (canon fs tm))) := by
     by_cases hq : qual (dec (x.ev ρ)) (tm.ev ρ) = []
     ·refine dsS_ok (d := d0) (fun j hj => ?_) d0_fits
      rw [e1, hq]; show ([] : List Int).getD j 0 = _
      match j, hj with
      | 0, _ => rfl | 1, _ => rfl | 2, _ => rfl | 3, _ => rfl | 4, _ => rfl | 5, _ => rfl | 6, _ => rfl | 7, _ => rfl | 8, _ => rfl | 9, _ => rfl | 10, _ => rfl
     ·refine dsS_ok (d := bestD (qual (dec (x.ev ρ)) (tm.ev ρ))) (fun j hj => e1 j) ?_
      unfold bestD; rw [if_neg hq]; refine qual_fits hob.1 _ _ (getD_mem ?_)
      have hbl : ∀ (less : Nat -> Nat -> Bool) (n : Nat) (l : List Nat) (b : Nat), b < n -> (∀ i ∈ l, i < n) -> bestI less b l < n := fun less n l => by
       induction l with
       | nil => exact fun b hb _ => hb
       | cons i l ih =>
        intro b hb hl; simp only [bestI]; refine ih _ ?_ fun j hj => hl j (lTl _ hj)
        split
        ·exact hl i (lHd ..)
        ·exact hb
      have hp := List.length_pos_iff.2 hq; exact hbl _ _ _ _ hp fun i hi => by have := List.mem_range'.1 hi; omega
    refine (bestB_any hob ha.2.1).mono fun e w' ⟨he, hTu⟩ => ⟨_, ?_, hK β w' (Ext.refl _ _) (Nat.le_refl _) (stay_put (objOf_spec hx)) (turn_out2 hh ho hx hTu ?_) hfs ⟨hok, trivial, trivial⟩⟩
    ·rw [he, <- hval β]
    ·rw [canon_ev hfs, hc]
   ·cases ht
  ·cases ht
 ·cases ht
end
end Go.Proofs.YtfcpmapfhgibpaaGreatDoor
