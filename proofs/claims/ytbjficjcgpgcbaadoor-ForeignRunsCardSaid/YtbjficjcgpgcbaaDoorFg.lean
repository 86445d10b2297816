/- Records of package foreign: how many messages of a record are recent. -/
import Derived.Test.YtbjficjcgpgcbaaDoorFf
import Derived.Deep.Light
import Derived.Lib.Hide
import Derived.WalkLawsBesides
import Derived.Outline
import Derived.Deep.QuietTactic
namespace Go.Proofs.YtbjficjcgpgcbaaDoor
open Go Go.RowKit SX Frm Frn
set_option linter.unusedVariables false
set_option linter.unusedSimpArgs false

theorem below_drawn {B : Nat} {a w : World} (h : Below B a w) (n : Nat) : Below B a (w.drewN n) := h.trans ⟨rfl, rfl, rfl, Nat.le_refl _, fun _ _ => rfl⟩
theorem recent_any {b m tb cap o : Nat} {win now a : Int} {ts : List Int} {w : World} (h0 : w.cell? ⟨b, 0, none⟩ = some (.int .i64 win)) (h2 : w.cell? ⟨b, 2, none⟩ = some (.int .i64 now)) (hm : w.cell? ⟨m, 13, none⟩ = some (.slice (some ⟨tb, o, none⟩) ts.length cap)) (ht : ∀ i : Nat, i < ts.length → w.cell? ⟨tb, o + i, none⟩ = some (.int .i64 (ts.getD i 0)))
    (hlen : ts.length ≤ 8) (hw : 1 ≤ win ∧ win ≤ maxSim) (hn : 0 ≤ now ∧ now ≤ maxSim) (ha : (Lit.int .i64 a).wf = true) :
    Calls Tryd.prog 30 #[.pointer (some ⟨b, 0, none⟩), .pointer (some ⟨m, 0, none⟩), .int .i64 a] w fun e w' => e = .returned (.int .i64 ((ts.filter fun x => decide (max a now - win < x)).length : Int)) ∧ Below w.heap.size w w' := by
  go_enter Tryd.func30, Tryd.ntmps30
  go_wp2_with fail
  go_loopw [7, 15] (fun v i wr => ∃ k : Nat, k ≤ ts.length ∧ i = .int .i64 k ∧ v = .int .i64 (((ts.take k).filter fun x => decide (max a now - win < x)).length : Int) ∧ Below w.heap.size w wr) (fun _ i _ => ts.length - (intOf i).toNat)
  case atStart => exact ⟨0, Nat.zero_le _, rfl, by simp, Below.refl _ _⟩
  case round =>
    obtain ⟨k, hk, rfl, rfl, hb⟩ := hrel
    have hmx : IntKind.i64.wrap ((if a < now then now else a) - win) = max a now - win := by
      have ha' := (wf_iff .i64 a).1 ha
      have i1 : IntKind.i64.min = -9223372036854775808 := by decide
      have i2 : IntKind.i64.max = 9223372036854775807 := by decide
      rw [i1, i2] at ha'
      unfold maxSim at *
      have e : (if a < now then now else a) = max a now := by rw [Int.max_def]; split <;> split <;> omega
      rw [e]
      exact wrap_fit ⟨by rw [i1]; omega, by rw [i2]; omega⟩
    by_cases hlt : k < ts.length
    · have hbl : ∀ p : Addr, (hp : p.block < w.heap.size) → wr.cell? p = w.cell? p := fun p hp => hb.cell hp
      have c0 : wr.cell? ⟨b, 0, none⟩ = some (.int .i64 win) := (hbl ⟨b, 0, none⟩ (block_lt_of_cell h0)).trans h0
      have c2 : wr.cell? ⟨b, 2, none⟩ = some (.int .i64 now) := (hbl ⟨b, 2, none⟩ (block_lt_of_cell h2)).trans h2
      have hg : ts.getD k 0 = ts[k] := by simp [hlt]
      have ct : wr.cell? ⟨tb, o + k, none⟩ = some (.int .i64 ts[k]) := by rw [← hg]; exact (hbl ⟨tb, o + k, none⟩ (block_lt_of_cell (ht k hlt))).trans (ht k hlt)
      have hstep : ((ts.take (k + 1)).filter fun x => decide (max a now - win < x)).length = ((ts.take k).filter fun x => decide (max a now - win < x)).length + if max a now - win < ts[k] then 1 else 0 := by
        rw [List.take_succ_eq_append_getElem hlt, List.filter_append, List.length_append]
        congr 1
        by_cases hc : max a now - win < ts[k] <;> simp [hc]
      have hle : ((ts.take k).filter fun x => decide (max a now - win < x)).length ≤ 8 := Nat.le_trans (List.length_filter_le _ _) (by rw [List.length_take]; omega)
      obtain ⟨q, hq⟩ : ∃ q, q = ((ts.take k).filter fun x => decide (max a now - win < x)).length := ⟨_, rfl⟩
      rw [← hq] at hle hstep ⊢
      have HB := Lib.hid hb
      have HS := Lib.hid hstep
      clear h0 h2 hm ht hstep hq hb hbl hg
      by_cases hc : max a now - win < ts[k]
      · go_wp2_with fail
        go_quiet (fail)
        go_wp2
        go_roundw
        case rel => exact ⟨k + 1, by omega, by go_num, by rw [HS.out, if_pos hc]; go_num, below_drawn HB.out _⟩
        case measure => simp [intOf]; omega
      · go_wp2_with fail
        go_quiet (fail)
        go_wp2
        go_roundw
        case rel => exact ⟨k + 1, by omega, by go_num, by rw [HS.out, if_neg (by omega), Nat.add_zero], below_drawn HB.out _⟩
        case measure => simp [intOf]; omega
    · have hk' : k = ts.length := by omega
      subst hk'
      rw [List.take_length]
      go_wp2
      go_ret
      exact ⟨rfl, hb⟩

/-! ### recent as a name -/
def recE (i : Nat) (a : E) : E := .app 30 0 [litN i, a]
def newer (a now win : Int) (ts : List Int) : Nat := (ts.filter fun x => decide (max a now - win < x)).length
def FR (l : List RV) (now win : Int) : Nat → Nat → List Int → Int := fun f _ ns => if f = 30 then (newer (ns.tail.headD 0) now win (l.getD (ns.headD 0).toNat rec0).2 : Int) else 0
def cellFit (hp : Hp) (fs : Fs) (k j : Nat) (want : SV) : Bool :=
  match cellsAt hp k with
  | some c => match c[j]? with
    | some s => SV.fit fs (fun i => .var i) id hp.n want s
    | none => false
  | none => false
def isArrB (hp : Hp) (k i : Nat) : Bool :=
  match hp.at k with
  | some ⟨_, .arr a [.int .i64] (.var v)⟩ => Nat.beq a i && Nat.beq v (15 + 13 * i + 11)
  | _ => false
def spRecent (n : Nat) : Spc := fun f args hp fs =>
  match args with
  | [.ptr 0 0, .ptr k 0, .int .i64 a] => if f = 30 ∧ 2 ≤ k ∧ k < 2 + n ∧ cellFit hp fs 0 0 (.int .i64 (.var 12)) = true ∧ cellFit hp fs 0 2 (.int .i64 (.var 14)) = true ∧ cellFit hp fs k 13 (timesS n (k - 2) none) = true ∧ isArrB hp (2 + n + (k - 2)) (k - 2) = true then
      some ⟨.int .i64 (recE (k - 2) (canon fs a)), hp, fs⟩ else none
  | _ => none
section
variable {ρ : Env} {w0 w : World} {M : Nat → Prop} {β : Bm} {hp : Hp} {fs : Fs}
theorem cellFit_spec (hh : Heap ρ w0 M β hp w) (hf : SX.FsOk ρ fs) {k j : Nat} {want : SV} (h : cellFit hp fs k j want = true) : w.cell? ⟨(β k).1, j, none⟩ = some (want.ev ρ β) := by
  unfold cellFit at h
  split at h
  · rename_i c hc
    split at h
    · rename_i s hs
      obtain ⟨e, _⟩ := SV.fit_spec (β := β) (m := hp.n) hf _ _ h
      have := (cellsAt_spec hh.sees hc).1 j (s.ev ρ β) (by rw [SV.evs_map, List.getElem?_map, hs]; rfl)
      rw [this, e, envSub_var]
      rfl
    · cases h
  · cases h
end
section
variable {F : Nat → Nat → List Int → Int} {d : List Int} {t win need now : Int} {l : List RV} {ts : List (Nat × Nat)} {tm : List Int} {b lb lc n : Nat} {ms : List Nat} {w0 w : World} {M : Nat → Prop} {gl : Gl}
theorem spRecent_ok (hl : l.length = n) (h5 : n ≤ 5) (hr : ∀ r ∈ l, RvOk r) (hw : 1 ≤ win ∧ win ≤ maxSim) (hn : 0 ≤ now ∧ now ≤ maxSim) : SpecOk Tryd.prog (envR (FR l now win) d t win need now l ts tm) w0 M gl (spRecent n) := fun f args hp fs o h β w hh hfs ha hg => by
  unfold spRecent at h
  split at h
  · rename_i k a
    split at h
    · rename_i hc
      obtain ⟨rfl, c1, c2, c3, c4, c5, c6⟩ := hc
      obtain rfl := Option.some.inj h
      obtain ⟨i, rfl⟩ : ∃ i, k = 2 + i := ⟨k - 2, by omega⟩
      rw [show 2 + i - 2 = i by omega] at c5 c6 ⊢
      have hi5 : i < 5 := by omega
      have hil : i < l.length := by omega
      have hR := hr _ (getD_mem (d := rec0) hil)
      have e0 := cellFit_spec hh hfs c3
      have e2 := cellFit_spec hh hfs c4
      have e13 := cellFit_spec hh hfs c5
      have et : (timesS n i none).ev (envR (FR l now win) d t win need now l ts tm) β = .slice (some ⟨(β (2 + n + i)).1, (β (2 + n + i)).2 + 0, none⟩) (l.getD i rec0).2.length (ts.getD i (0, 0)).2 := by
        show Value.slice (some ⟨(β (2 + n + i)).1, (β (2 + n + i)).2 + 0, none⟩) ((recVar i 11).ev _).toNat ((recVar i 12).ev _).toNat = _
        rw [rec_len i hi5, rec_cap i hi5]; rfl
      rw [et] at e13
      have hv : (recE i (canon fs a)).ev (envR (FR l now win) d t win need now l ts tm) = (newer (a.ev (envR (FR l now win) d t win need now l ts tm)) now win (l.getD i rec0).2 : Int) := by
        show FR l now win 30 0 [Int.ofNat i, (canon fs a).ev _] = _
        rw [canon_ev hfs]; rfl
      have hlen8 : newer (a.ev (envR (FR l now win) d t win need now l ts tm)) now win (l.getD i rec0).2 ≤ 8 := Nat.le_trans (List.length_filter_le _ _) hR.le
      have hcells : ∀ j : Nat, j < (l.getD i rec0).2.length → w.cell? ⟨(β (2 + n + i)).1, (β (2 + n + i)).2 + 0 + j, none⟩ = some (.int .i64 ((l.getD i rec0).2.getD j 0)) := fun j hj => by
        unfold isArrB at c6
        split at c6
        · rename_i r a' v hat
          simp only [Bool.and_eq_true, beq_iff, decide_eq_true_eq] at c6
          obtain ⟨rfl, rfl⟩ := c6
          obtain ⟨q1, q2⟩ := hh.lies _ _ hat j 0 (.int .i64) (by
            show j < ((recVar a' 11).ev _).toNat
            rw [rec_len a' hi5]; exact hj) rfl
          have hwf := hR.wf _ (getD_mem (d := 0) hj)
          have e3 : (envR (FR l now win) d t win need now l ts tm).rd a' (Lk.code (.int .i64) 0) j = (l.getD a' rec0).2.getD j 0 := by
            show IntKind.i64.wrap ((l.getD a' rec0).2.getD (j : Int).toNat 0) = _
            rw [Int.toNat_natCast]
            exact wrap_fit ((wf_iff .i64 _).1 hwf)
          rw [e3] at q1
          rw [show (β (2 + n + a')).2 + 0 + j = (β (2 + n + a')).2 + (j * [Lk.int IntKind.i64].length + 0) by simp]
          exact q1
        · cases c6
      have hcall := recent_any (w := w) e0 e2 e13 hcells hR.le hw hn ha.2.2.1
      refine hcall.mono fun x w' ⟨hx, hb⟩ => ⟨β, Ext.refl _ _, Nat.le_refl _, Stay.refl _, hh.below hb, hfs, ?_, ?_⟩
      · show (Lit.int .i64 ((recE i (canon fs a)).ev _)).wf = true
        rw [hv]
        exact wfI (by omega)
      · rw [hx]
        show _ = Ending.returned (.int .i64 ((recE i (canon fs a)).ev _))
        rw [hv]; rfl
    · cases h
  · cases h
end
end Go.Proofs.YtbjficjcgpgcbaaDoor
