/- Walks of package dataset: Best, Own, Step. -/
import Derived.Test.YtljcmjcfebpkoaaDoorDsMore
namespace Go.Proofs.YtljcmjcfebpkoaaDoor
set_option linter.unusedVariables false
open Go.RowKit
open DsLaw (I64 U64 cmpI lexF lt rk)

/-- A data set's cells. -/
def dsL (d : DS) : List Value := [.int .i64 d.p1, .int .i64 d.cls, .int .i64 d.acc, .int .i64 d.vr, .int .i64 d.p2, .int .u64 d.gm, .int .i64 d.steps, .int .u64 d.snd, .int .i64 d.sp, .int .u64 d.rcv, .int .i64 d.rp]
theorem Sl.ds {w : World} {B : Nat} {A : Option Addr} {l : List DS} (h : Sl w B 11 A (l.map dsL)) (hl : 0 < l.length) : ∃ b off, A = some ⟨b, off, none⟩ ∧ b < B ∧
    ∀ i, i < l.length → (w.cell? ⟨b, off + i * 11, none⟩ = some (.int .i64 (l.getD i DsLaw.z).p1) ∧ w.cell? ⟨b, off + i * 11 + 1, none⟩ = some (.int .i64 (l.getD i DsLaw.z).cls) ∧ w.cell? ⟨b, off + i * 11 + 2, none⟩ = some (.int .i64 (l.getD i DsLaw.z).acc) ∧ w.cell? ⟨b, off + i * 11 + 3, none⟩ = some (.int .i64 (l.getD i DsLaw.z).vr) ∧ w.cell? ⟨b, off + i * 11 + 4, none⟩ = some (.int .i64 (l.getD i DsLaw.z).p2) ∧ w.cell? ⟨b, off + i * 11 + 5, none⟩ = some (.int .u64 (l.getD i DsLaw.z).gm) ∧ w.cell? ⟨b, off + i * 11 + 6, none⟩ = some (.int .i64 (l.getD i DsLaw.z).steps) ∧ w.cell? ⟨b, off + i * 11 + 7, none⟩ = some (.int .u64 (l.getD i DsLaw.z).snd) ∧ w.cell? ⟨b, off + i * 11 + 8, none⟩ = some (.int .i64 (l.getD i DsLaw.z).sp) ∧ w.cell? ⟨b, off + i * 11 + 9, none⟩ = some (.int .u64 (l.getD i DsLaw.z).rcv) ∧ w.cell? ⟨b, off + i * 11 + 10, none⟩ = some (.int .i64 (l.getD i DsLaw.z).rp)) := by
  obtain ⟨b, off, e, hb, hc⟩ := h (by simpa using hl)
  refine ⟨b, off, e, hb, fun i hi => ?_⟩
  have hx : (l.map dsL)[i]? = some (dsL (l.getD i DsLaw.z)) := by simp [hi]
  exact ⟨hc i _ hx 0 _ rfl, hc i _ hx 1 _ rfl, hc i _ hx 2 _ rfl, hc i _ hx 3 _ rfl, hc i _ hx 4 _ rfl, hc i _ hx 5 _ rfl, hc i _ hx 6 _ rfl, hc i _ hx 7 _ rfl, hc i _ hx 8 _ rfl, hc i _ hx 9 _ rfl, hc i _ hx 10 _ rfl⟩
theorem dscells_keep {w w' : World} {b off : Nat} {d : DS} (hk : ∀ o, w'.cell? ⟨b, o, none⟩ = w.cell? ⟨b, o, none⟩) (h : w.cell? ⟨b, off, none⟩ = some (.int .i64 d.p1) ∧ w.cell? ⟨b, off + 1, none⟩ = some (.int .i64 d.cls) ∧ w.cell? ⟨b, off + 2, none⟩ = some (.int .i64 d.acc) ∧ w.cell? ⟨b, off + 3, none⟩ = some (.int .i64 d.vr) ∧ w.cell? ⟨b, off + 4, none⟩ = some (.int .i64 d.p2) ∧ w.cell? ⟨b, off + 5, none⟩ = some (.int .u64 d.gm) ∧ w.cell? ⟨b, off + 6, none⟩ = some (.int .i64 d.steps) ∧ w.cell? ⟨b, off + 7, none⟩ = some (.int .u64 d.snd) ∧ w.cell? ⟨b, off + 8, none⟩ = some (.int .i64 d.sp) ∧ w.cell? ⟨b, off + 9, none⟩ = some (.int .u64 d.rcv) ∧ w.cell? ⟨b, off + 10, none⟩ = some (.int .i64 d.rp)) : w'.cell? ⟨b, off, none⟩ = some (.int .i64 d.p1) ∧ w'.cell? ⟨b, off + 1, none⟩ = some (.int .i64 d.cls) ∧ w'.cell? ⟨b, off + 2, none⟩ = some (.int .i64 d.acc) ∧ w'.cell? ⟨b, off + 3, none⟩ = some (.int .i64 d.vr) ∧ w'.cell? ⟨b, off + 4, none⟩ = some (.int .i64 d.p2) ∧ w'.cell? ⟨b, off + 5, none⟩ = some (.int .u64 d.gm) ∧ w'.cell? ⟨b, off + 6, none⟩ = some (.int .i64 d.steps) ∧ w'.cell? ⟨b, off + 7, none⟩ = some (.int .u64 d.snd) ∧ w'.cell? ⟨b, off + 8, none⟩ = some (.int .i64 d.sp) ∧ w'.cell? ⟨b, off + 9, none⟩ = some (.int .u64 d.rcv) ∧ w'.cell? ⟨b, off + 10, none⟩ = some (.int .i64 d.rp) := by
  simp only [hk]; exact h

/-- What a round of Best keeps. -/
def BInv (d d2 : DS) (b o : Nat) (w wr W : World) : Prop :=
  (W.cell? ⟨wr.heap.size, 0, none⟩ = some (.int .i64 d.p1) ∧ W.cell? ⟨wr.heap.size, 1, none⟩ = some (.int .i64 d.cls) ∧ W.cell? ⟨wr.heap.size, 2, none⟩ = some (.int .i64 d.acc) ∧ W.cell? ⟨wr.heap.size, 3, none⟩ = some (.int .i64 d.vr) ∧ W.cell? ⟨wr.heap.size, 4, none⟩ = some (.int .i64 d.p2) ∧ W.cell? ⟨wr.heap.size, 5, none⟩ = some (.int .u64 d.gm) ∧ W.cell? ⟨wr.heap.size, 6, none⟩ = some (.int .i64 d.steps) ∧ W.cell? ⟨wr.heap.size, 7, none⟩ = some (.int .u64 d.snd) ∧ W.cell? ⟨wr.heap.size, 8, none⟩ = some (.int .i64 d.sp) ∧ W.cell? ⟨wr.heap.size, 9, none⟩ = some (.int .u64 d.rcv) ∧ W.cell? ⟨wr.heap.size, 10, none⟩ = some (.int .i64 d.rp)) ∧ (W.cell? ⟨b, o, none⟩ = some (.int .i64 d2.p1) ∧ W.cell? ⟨b, o + 1, none⟩ = some (.int .i64 d2.cls) ∧ W.cell? ⟨b, o + 2, none⟩ = some (.int .i64 d2.acc) ∧ W.cell? ⟨b, o + 3, none⟩ = some (.int .i64 d2.vr) ∧ W.cell? ⟨b, o + 4, none⟩ = some (.int .i64 d2.p2) ∧ W.cell? ⟨b, o + 5, none⟩ = some (.int .u64 d2.gm) ∧ W.cell? ⟨b, o + 6, none⟩ = some (.int .i64 d2.steps) ∧ W.cell? ⟨b, o + 7, none⟩ = some (.int .u64 d2.snd) ∧ W.cell? ⟨b, o + 8, none⟩ = some (.int .i64 d2.sp) ∧ W.cell? ⟨b, o + 9, none⟩ = some (.int .u64 d2.rcv) ∧ W.cell? ⟨b, o + 10, none⟩ = some (.int .i64 d2.rp)) ∧ b < w.heap.size ∧ w.heap.size ≤ wr.heap.size ∧ wr.heap.size + 1 ≤ W.heap.size ∧ Below w.heap.size w W
theorem BInv.step {d d2 : DS} {b o : Nat} {w wr W W1 : World} (h : BInv d d2 b o w wr W) (hb : Below W.heap.size W W1) : BInv d d2 b o w wr W1 := by
  obtain ⟨h1, h2, h3, h4, h5, h6⟩ := h
  refine ⟨(rangeAt_ds ..).1 (rangeAt_below ((rangeAt_ds ..).2 h1) hb (by omega)), dscells_keep (fun o => hb.cell (p := ⟨b, o, none⟩) (show b < _ by omega)) h2, h3, h4, Nat.le_trans h5 hb.size, h6.trans (hb.mono (by omega))⟩
set_option maxHeartbeats 1000000 in
theorem best_any (l : List DS) (A : Option Addr) (cap : Nat) (hok : ∀ d ∈ l, DsLaw.Ok d) (hl : l.length ≤ 4611686018427387904) (w : World) (hF : Fields w) (hsl : Sl w w.heap.size 11 A (l.map dsL)) :
    Calls Tryd.prog 16 #[.slice A l.length cap] w fun e w' => e = .returned (.int .i64 (DsLaw.best l l.length)) ∧ Below w.heap.size w w' := by
  have HF := Lib.hid hF
  have HOK := Lib.hid hok
  clear hF hok
  go_enter Tryd.func16, Tryd.ntmps16
  go_wp2
  go_loopw [3, 8] (fun v i wr => ∃ (k : Nat) (bm : Int), k ≤ l.length ∧ i = .int .i64 k ∧ v = .int .i64 bm ∧ bm = DsLaw.best l k ∧ Below w.heap.size w wr) (fun _ i _ => l.length - (intOf i).toNat)
  case atStart => exact ⟨0, -1, Nat.zero_le _, rfl, rfl, rfl, Below.refl _ _⟩
  case round =>
    obtain ⟨k, bm, hkl, rfl, rfl, hbm, hb⟩ := hrel
    by_cases hlt : k < l.length
    · obtain ⟨b, off, rfl, hbB, hc⟩ := hsl.ds (by omega)
      have hk := Lib.hid (dscells_keep (fun o => hb.cell (p := ⟨b, o, none⟩) hbB) (hc k hlt))
      have hnew := DsLaw.best_new l k
      have hold := DsLaw.best_old l k
      have hr := DsLaw.best_range l k
      have hd := HOK.out _ (List.getElem_mem hlt)
      have hgd : l.getD k DsLaw.z = l[k] := by simp [hlt]
      rw [hgd] at hk hnew hold
      rw [← hbm] at hr hnew hold
      generalize l[k] = d at hk hd hgd hnew hold
      have hk' := hk.out
      by_cases hneg : bm < 0
      · have HN := Lib.hid (hnew (.inl hneg))
        obtain ⟨h0, h1, h2, h3, h4, h5, h6, h7, h8, h9, h10⟩ := hk'
        have HB := Lib.hid hb
        clear hc hsl hd hgd hr hnew hold hbm hb
        go_wp2_with fail
        go_quiet (fail)
        go_wp2
        go_roundw
        case rel => exact ⟨k + 1, k, by omega, by go_num, rfl, HN.out.symm, below_drewN (HB.out.alloc HB.out.size _) _⟩
        case measure => simp [intOf]; omega
      · obtain ⟨m, rfl⟩ : ∃ m : Nat, bm = m := ⟨bm.toNat, by omega⟩
        simp only [Int.toNat_natCast] at hnew hold
        have hml : m < l.length := by omega
        have hmk : (m : Int) < (l.length : Int) := by omega
        have hm0 : (0 : Int) ≤ (m : Int) := by omega
        have hm := dscells_keep (fun o => hb.cell (p := ⟨b, o, none⟩) hbB) (hc m hml)
        have hd2 := HOK.out _ (List.getElem_mem hml)
        have hgd2 : l.getD m DsLaw.z = l[m] := by simp [hml]
        rw [hgd2] at hm hnew hold
        generalize l[m] = d2 at hm hd2 hgd2 hnew hold
        have HI : ∀ o, BInv d d2 b (off + m * 11) w wr (wr.alloc (.cells #[.int .i64 d.p1, .int .i64 d.cls, .int .i64 d.acc, .int .i64 d.vr, .int .i64 d.p2, .int .u64 d.gm, .int .i64 d.steps, .int .u64 d.snd, .int .i64 d.sp, .int .u64 d.rcv, .int .i64 d.rp] o)) := fun o =>
          ⟨(rangeAt_ds ..).1 (rangeAt_new wr _ [.int .i64 d.p1, .int .i64 d.cls, .int .i64 d.acc, .int .i64 d.vr, .int .i64 d.p2, .int .u64 d.gm, .int .i64 d.steps, .int .u64 d.snd, .int .i64 d.sp, .int .u64 d.rcv, .int .i64 d.rp] _ rfl), dscells_keep (fun o => World.cell?_alloc_lt _ _ ⟨b, o, none⟩ (show b < _ from Nat.lt_of_lt_of_le hbB hb.size)) hm, hbB, hb.size, by simp, hb.alloc hb.size _⟩
        have HD := Lib.hid (fun o => (HI o).step (below_drewN (Below.refl _ _) 1))
        have HFr := Lib.hid (HF.out.below hb HF.out.lt)
        have hFl := Lib.hid (fun (W : World) (hI : BInv d d2 b (off + m * 11) w wr W) => less_any d d2 hd hd2 W (HF.out.below hI.2.2.2.2.2 HF.out.lt))
        obtain ⟨h0, h1, h2, h3, h4, h5, h6, h7, h8, h9, h10⟩ := hk'
        have HB := Lib.hid hb
        have hneg' : decide ((m : Int) < 0) = false := by simp
        have HNW := Lib.hid hnew
        have HOL := Lib.hid hold
        have HBM := Lib.hid hbm
        clear hc hsl hgd hr hnew hold hbm hb hgd2 hneg hm HI
        go_wp2_with fail
        go_region_held3 (fun W => (W.cell? ⟨wr.heap.size, 0, none⟩ = some (.int .i64 d.p1) ∧ W.cell? ⟨wr.heap.size, 1, none⟩ = some (.int .i64 d.cls) ∧ W.cell? ⟨wr.heap.size, 2, none⟩ = some (.int .i64 d.acc) ∧ W.cell? ⟨wr.heap.size, 3, none⟩ = some (.int .i64 d.vr) ∧ W.cell? ⟨wr.heap.size, 4, none⟩ = some (.int .i64 d.p2) ∧ W.cell? ⟨wr.heap.size, 5, none⟩ = some (.int .u64 d.gm) ∧ W.cell? ⟨wr.heap.size, 6, none⟩ = some (.int .i64 d.steps) ∧ W.cell? ⟨wr.heap.size, 7, none⟩ = some (.int .u64 d.snd) ∧ W.cell? ⟨wr.heap.size, 8, none⟩ = some (.int .i64 d.sp) ∧ W.cell? ⟨wr.heap.size, 9, none⟩ = some (.int .u64 d.rcv) ∧ W.cell? ⟨wr.heap.size, 10, none⟩ = some (.int .i64 d.rp)) ∧ (W.cell? ⟨b, off + m * 11, none⟩ = some (.int .i64 d2.p1) ∧ W.cell? ⟨b, off + m * 11 + 1, none⟩ = some (.int .i64 d2.cls) ∧ W.cell? ⟨b, off + m * 11 + 2, none⟩ = some (.int .i64 d2.acc) ∧ W.cell? ⟨b, off + m * 11 + 3, none⟩ = some (.int .i64 d2.vr) ∧ W.cell? ⟨b, off + m * 11 + 4, none⟩ = some (.int .i64 d2.p2) ∧ W.cell? ⟨b, off + m * 11 + 5, none⟩ = some (.int .u64 d2.gm) ∧ W.cell? ⟨b, off + m * 11 + 6, none⟩ = some (.int .i64 d2.steps) ∧ W.cell? ⟨b, off + m * 11 + 7, none⟩ = some (.int .u64 d2.snd) ∧ W.cell? ⟨b, off + m * 11 + 8, none⟩ = some (.int .i64 d2.sp) ∧ W.cell? ⟨b, off + m * 11 + 9, none⟩ = some (.int .u64 d2.rcv) ∧ W.cell? ⟨b, off + m * 11 + 10, none⟩ = some (.int .i64 d2.rp)) ∧ b < w.heap.size ∧ w.heap.size ≤ wr.heap.size ∧ wr.heap.size + 1 ≤ W.heap.size ∧ Below w.heap.size w W)
          (first | assumption | exact HD.out _ | (show BInv d d2 b (off + m * 11) w wr _; refine BInv.step ?_ hb1; assumption))
          (first | (go_at_call 14; refine (hFl.out _ (by assumption)).mono ?_; rintro e w1 ⟨rfl, hb1⟩))
        have hfin : BInv d d2 b (off + m * 11) w wr w1 := by assumption
        have HBf := Lib.hid hfin.2.2.2.2.2
        clear hfin
        rename_i hh1
        clear hh1 hb1 h0 h1 h2 h3 h4 h5 h6 h7 h8 h9 h10 hk
        by_cases hx : lt d d2
        · go_wp2
          go_roundw
          case rel => exact ⟨k + 1, k, by omega, by go_num, rfl, (HNW.out (.inr hx)).symm, HBf.out⟩
          case measure => simp [intOf]; omega
        · go_wp2
          go_roundw
          case rel => exact ⟨k + 1, m, by omega, by go_num, rfl, (HOL.out (by intro h; rcases h with h | h; omega; exact hx h)).symm, HBf.out⟩
          case measure => simp [intOf]; omega
    · have hk : k = l.length := by omega
      have HB := Lib.hid hb
      subst hk
      clear hsl hb
      go_wp2
      go_ret
      exact ⟨ret_int hbm, HB.out⟩

def ownDS (p1 cls acc vr p2 id : Int) : DS := ⟨p1, cls, acc, vr, p2, id, 0, id, 0, id, 0⟩
theorem own_any (p1 cls acc vr p2 id : Int) (w : World) : Calls Tryd.prog 21 #[.agg #[.int .i64 p1, .int .i64 cls, .int .i64 acc, .int .i64 vr, .int .i64 p2], .int .u64 id] w fun e w' =>
    e = .returned (.agg #[.int .i64 p1, .int .i64 cls, .int .i64 acc, .int .i64 vr, .int .i64 p2, .int .u64 id, .int .i64 0, .int .u64 id, .int .i64 0, .int .u64 id, .int .i64 0]) ∧ Below w.heap.size w w' := by
  go_enter Tryd.func21, Tryd.ntmps21
  go_wp2
  exact bodyPost_ret (v := .agg #[.int .i64 p1, .int .i64 cls, .int .i64 acc, .int .i64 vr, .int .i64 p2, .int .u64 id, .int .i64 0, .int .u64 id, .int .i64 0, .int .u64 id, .int .i64 0]) (by simp [results, Tryd.results21, go_sem]) rfl ⟨rfl, ((Below.refl _ _).alloc (Nat.le_refl _) _).alloc (by simp) _⟩
/-- Announced further. -/
def stepDS (d : DS) (snd sp rcv rp : Int) : DS := ⟨d.p1, d.cls, d.acc, d.vr, d.p2, d.gm, d.steps + 1, snd, sp, rcv, rp⟩
theorem step_any (d : DS) (snd sp rcv rp : Int) (w : World) (h : d.steps < 32) (hlo : -9223372036854775808 ≤ d.steps) : Calls Tryd.prog 19 #[(.agg #[.int .i64 d.p1, .int .i64 d.cls, .int .i64 d.acc, .int .i64 d.vr, .int .i64 d.p2, .int .u64 d.gm, .int .i64 d.steps, .int .u64 d.snd, .int .i64 d.sp, .int .u64 d.rcv, .int .i64 d.rp]), .int .u64 snd, .int .i64 sp, .int .u64 rcv, .int .i64 rp] w fun e w' =>
    e = .returned (.tuple #[.agg #[.int .i64 d.p1, .int .i64 d.cls, .int .i64 d.acc, .int .i64 d.vr, .int .i64 d.p2, .int .u64 d.gm, .int .i64 (d.steps + 1), .int .u64 snd, .int .i64 sp, .int .u64 rcv, .int .i64 rp], .int .i64 0]) ∧ Below w.heap.size w w' := by
  have h' : decide (32 ≤ d.steps) = false := by simp; omega
  go_enter Tryd.func19, Tryd.ntmps19
  go_wp2
  exact bodyPost_ret (v := .tuple #[.agg #[.int .i64 d.p1, .int .i64 d.cls, .int .i64 d.acc, .int .i64 d.vr, .int .i64 d.p2, .int .u64 d.gm, .int .i64 (d.steps + 1), .int .u64 snd, .int .i64 sp, .int .u64 rcv, .int .i64 rp], .int .i64 0])
    (by simp [results, Tryd.results19, go_sem]) rfl ⟨rfl, ((Below.refl _ _).alloc (Nat.le_refl _) _).alloc (by simp) _⟩
theorem step_no (d : DS) (snd sp rcv rp : Int) (w : World) (h : 32 ≤ d.steps) : Calls Tryd.prog 19 #[(.agg #[.int .i64 d.p1, .int .i64 d.cls, .int .i64 d.acc, .int .i64 d.vr, .int .i64 d.p2, .int .u64 d.gm, .int .i64 d.steps, .int .u64 d.snd, .int .i64 d.sp, .int .u64 d.rcv, .int .i64 d.rp]), .int .u64 snd, .int .i64 sp, .int .u64 rcv, .int .i64 rp] w fun e w' =>
    e = .returned (.tuple #[.agg #[.int .i64 0, .int .i64 0, .int .i64 0, .int .i64 0, .int .i64 0, .int .u64 0, .int .i64 0, .int .u64 0, .int .i64 0, .int .u64 0, .int .i64 0], .int .i64 3]) ∧ Below w.heap.size w w' := by
  go_enter Tryd.func19, Tryd.ntmps19
  go_wp2
  exact bodyPost_ret (v := .tuple #[.agg #[.int .i64 0, .int .i64 0, .int .i64 0, .int .i64 0, .int .i64 0, .int .u64 0, .int .i64 0, .int .u64 0, .int .i64 0, .int .u64 0, .int .i64 0], .int .i64 3])
    (by simp [results, Tryd.results19, go_sem]) rfl ⟨rfl, ((Below.refl _ _).alloc (Nat.le_refl _) _).alloc (by simp) _⟩
end Go.Proofs.YtljcmjcfebpkoaaDoor
