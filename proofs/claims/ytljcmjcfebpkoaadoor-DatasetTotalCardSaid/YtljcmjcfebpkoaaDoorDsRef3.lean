/- Walks of the reference of package dataset: Best. -/
import Derived.Test.YtljcmjcfebpkoaaDoorDsRef2
namespace Go.Proofs.YtljcmjcfebpkoaaDoor
set_option linter.unusedVariables false
open Go.RowKit
open DsLaw (I64 U64 cmpI lexF lt rk)

def B2Inv (d d2 : DS) (b o o2 : Nat) (w W : World) : Prop :=
  (W.cell? ⟨b, o, none⟩ = some (.int .i64 d.p1) ∧ W.cell? ⟨b, o + 1, none⟩ = some (.int .i64 d.cls) ∧ W.cell? ⟨b, o + 2, none⟩ = some (.int .i64 d.acc) ∧ W.cell? ⟨b, o + 3, none⟩ = some (.int .i64 d.vr) ∧ W.cell? ⟨b, o + 4, none⟩ = some (.int .i64 d.p2) ∧ W.cell? ⟨b, o + 5, none⟩ = some (.int .u64 d.gm) ∧ W.cell? ⟨b, o + 6, none⟩ = some (.int .i64 d.steps) ∧ W.cell? ⟨b, o + 7, none⟩ = some (.int .u64 d.snd) ∧ W.cell? ⟨b, o + 8, none⟩ = some (.int .i64 d.sp) ∧ W.cell? ⟨b, o + 9, none⟩ = some (.int .u64 d.rcv) ∧ W.cell? ⟨b, o + 10, none⟩ = some (.int .i64 d.rp)) ∧ (W.cell? ⟨b, o2, none⟩ = some (.int .i64 d2.p1) ∧ W.cell? ⟨b, o2 + 1, none⟩ = some (.int .i64 d2.cls) ∧ W.cell? ⟨b, o2 + 2, none⟩ = some (.int .i64 d2.acc) ∧ W.cell? ⟨b, o2 + 3, none⟩ = some (.int .i64 d2.vr) ∧ W.cell? ⟨b, o2 + 4, none⟩ = some (.int .i64 d2.p2) ∧ W.cell? ⟨b, o2 + 5, none⟩ = some (.int .u64 d2.gm) ∧ W.cell? ⟨b, o2 + 6, none⟩ = some (.int .i64 d2.steps) ∧ W.cell? ⟨b, o2 + 7, none⟩ = some (.int .u64 d2.snd) ∧ W.cell? ⟨b, o2 + 8, none⟩ = some (.int .i64 d2.sp) ∧ W.cell? ⟨b, o2 + 9, none⟩ = some (.int .u64 d2.rcv) ∧ W.cell? ⟨b, o2 + 10, none⟩ = some (.int .i64 d2.rp)) ∧ b < w.heap.size ∧ Below w.heap.size w W
theorem B2Inv.step {d d2 : DS} {b o o2 : Nat} {w W W1 : World} (h : B2Inv d d2 b o o2 w W) (hb : Below W.heap.size W W1) : B2Inv d d2 b o o2 w W1 := by
  obtain ⟨h1, h2, h3, h6⟩ := h
  have hs := h6.size
  exact ⟨dscells_keep (fun o => hb.cell (p := ⟨b, o, none⟩) (show b < _ by omega)) h1, dscells_keep (fun o => hb.cell (p := ⟨b, o, none⟩) (show b < _ by omega)) h2, h3, h6.trans (hb.mono hs)⟩
set_option maxHeartbeats 1000000 in
theorem r_best_any (l : List DS) (A : Option Addr) (cap : Nat) (hok : ∀ d ∈ l, DsLaw.Ok d) (hl : l.length ≤ 4611686018427387904) (w : World) (hsl : Sl w w.heap.size 11 A (l.map dsL)) :
    Calls Tryd.prog 17 #[.slice A l.length cap] w fun e w' => e = .returned (.int .i64 (DsLaw.best l l.length)) ∧ Below w.heap.size w w' := by
  have HOK := Lib.hid hok
  clear hok
  go_enter Tryd.func17, Tryd.ntmps17
  go_wp2
  go_loopw [3, 4] (fun v i wr => ∃ (k : Nat) (bm : Int), k ≤ l.length ∧ i = .int .i64 k ∧ v = .int .i64 bm ∧ bm = DsLaw.best l k ∧ Below w.heap.size w wr) (fun _ i _ => l.length - (intOf i).toNat)
  case atStart => exact ⟨0, -1, Nat.zero_le _, rfl, rfl, rfl, Below.refl _ _⟩
  case round =>
    obtain ⟨k, bm, hkl, rfl, rfl, hbm, hb⟩ := hrel
    by_cases hlt : k < l.length
    · obtain ⟨b, off, rfl, hbB, hc⟩ := hsl.ds (by omega)
      have hk := Lib.hid (dscells_keep (fun o => hb.cell (p := ⟨b, o, none⟩) hbB) (hc k hlt))
      have hnew := DsLaw.best_new l k
      have hold := DsLaw.best_old l k
      have hr := DsLaw.best_range l k
      have hd := HOK.out _ (List.getElem_mem hlt)
      have hgd : l.getD k DsLaw.z = l[k] := by simp [hlt]
      rw [hgd] at hk hnew hold
      rw [← hbm] at hr hnew hold
      generalize l[k] = d at hk hd hgd hnew hold
      have hk' := hk.out
      by_cases hneg : bm < 0
      · have HN := Lib.hid (hnew (.inl hneg))
        obtain ⟨h0, h1, h2, h3, h4, h5, h6, h7, h8, h9, h10⟩ := hk'
        have HB := Lib.hid hb
        clear hc hsl hd hgd hr hnew hold hbm hb
        go_wp2_with fail
        go_quiet (fail)
        go_wp2
        go_roundw
        case rel => exact ⟨k + 1, k, by omega, by go_num, rfl, HN.out.symm, below_drewN HB.out _⟩
        case measure => simp [intOf]; omega
      · obtain ⟨m, rfl⟩ : ∃ m : Nat, bm = m := ⟨bm.toNat, by omega⟩
        simp only [Int.toNat_natCast] at hnew hold
        have hml : m < l.length := by omega
        have hmk : (m : Int) < (l.length : Int) := by omega
        have hm0 : (0 : Int) ≤ (m : Int) := by omega
        have hm := dscells_keep (fun o => hb.cell (p := ⟨b, o, none⟩) hbB) (hc m hml)
        have hd2 := HOK.out _ (List.getElem_mem hml)
        have hgd2 : l.getD m DsLaw.z = l[m] := by simp [hml]
        rw [hgd2] at hm hnew hold
        generalize l[m] = d2 at hm hd2 hgd2 hnew hold
        have HI : B2Inv d d2 b (off + k * 11) (off + m * 11) w wr := ⟨hk', hm, hbB, hb⟩
        have HD := Lib.hid (HI.step (below_drewN (Below.refl _ _) 1))
        have hFl := Lib.hid (fun (W : World) => r_less_any d d2 W)
        obtain ⟨h0, h1, h2, h3, h4, h5, h6, h7, h8, h9, h10⟩ := hk'
        have HB := Lib.hid hb
        have hneg' : decide ((m : Int) < 0) = false := by simp
        have HNW := Lib.hid hnew
        have HOL := Lib.hid hold
        have HBM := Lib.hid hbm
        clear hc hsl hgd hr hnew hold hbm hb hgd2 hneg hm HI
        go_wp2_with fail
        go_region_held3 (fun W => (W.cell? ⟨b, off + k * 11, none⟩ = some (.int .i64 d.p1) ∧ W.cell? ⟨b, off + k * 11 + 1, none⟩ = some (.int .i64 d.cls) ∧ W.cell? ⟨b, off + k * 11 + 2, none⟩ = some (.int .i64 d.acc) ∧ W.cell? ⟨b, off + k * 11 + 3, none⟩ = some (.int .i64 d.vr) ∧ W.cell? ⟨b, off + k * 11 + 4, none⟩ = some (.int .i64 d.p2) ∧ W.cell? ⟨b, off + k * 11 + 5, none⟩ = some (.int .u64 d.gm) ∧ W.cell? ⟨b, off + k * 11 + 6, none⟩ = some (.int .i64 d.steps) ∧ W.cell? ⟨b, off + k * 11 + 7, none⟩ = some (.int .u64 d.snd) ∧ W.cell? ⟨b, off + k * 11 + 8, none⟩ = some (.int .i64 d.sp) ∧ W.cell? ⟨b, off + k * 11 + 9, none⟩ = some (.int .u64 d.rcv) ∧ W.cell? ⟨b, off + k * 11 + 10, none⟩ = some (.int .i64 d.rp)) ∧ (W.cell? ⟨b, off + m * 11, none⟩ = some (.int .i64 d2.p1) ∧ W.cell? ⟨b, off + m * 11 + 1, none⟩ = some (.int .i64 d2.cls) ∧ W.cell? ⟨b, off + m * 11 + 2, none⟩ = some (.int .i64 d2.acc) ∧ W.cell? ⟨b, off + m * 11 + 3, none⟩ = some (.int .i64 d2.vr) ∧ W.cell? ⟨b, off + m * 11 + 4, none⟩ = some (.int .i64 d2.p2) ∧ W.cell? ⟨b, off + m * 11 + 5, none⟩ = some (.int .u64 d2.gm) ∧ W.cell? ⟨b, off + m * 11 + 6, none⟩ = some (.int .i64 d2.steps) ∧ W.cell? ⟨b, off + m * 11 + 7, none⟩ = some (.int .u64 d2.snd) ∧ W.cell? ⟨b, off + m * 11 + 8, none⟩ = some (.int .i64 d2.sp) ∧ W.cell? ⟨b, off + m * 11 + 9, none⟩ = some (.int .u64 d2.rcv) ∧ W.cell? ⟨b, off + m * 11 + 10, none⟩ = some (.int .i64 d2.rp)) ∧ b < w.heap.size ∧ Below w.heap.size w W)
          (first | assumption | exact HD.out | (show B2Inv d d2 b (off + k * 11) (off + m * 11) w _; refine B2Inv.step ?_ hb1; assumption))
          (first | (go_at_call 15; refine (hFl.out _).mono ?_; rintro e w1 ⟨rfl, hb1⟩))
        have hfin : B2Inv d d2 b (off + k * 11) (off + m * 11) w w1 := by assumption
        have HBf := Lib.hid hfin.2.2.2
        clear hfin
        rename_i hh1
        clear hh1 hb1 h0 h1 h2 h3 h4 h5 h6 h7 h8 h9 h10 hk
        by_cases hx : lt d d2
        · go_wp2
          go_roundw
          case rel => exact ⟨k + 1, k, by omega, by go_num, rfl, (HNW.out (.inr hx)).symm, HBf.out⟩
          case measure => simp [intOf]; omega
        · go_wp2
          go_roundw
          case rel => exact ⟨k + 1, m, by omega, by go_num, rfl, (HOL.out (by intro h; rcases h with h | h; omega; exact hx h)).symm, HBf.out⟩
          case measure => simp [intOf]; omega
    · have hk : k = l.length := by omega
      have HB := Lib.hid hb
      subst hk
      clear hsl hb
      go_wp2
      go_ret
      exact ⟨ret_int hbm, HB.out⟩

end Go.Proofs.YtljcmjcfebpkoaaDoor
