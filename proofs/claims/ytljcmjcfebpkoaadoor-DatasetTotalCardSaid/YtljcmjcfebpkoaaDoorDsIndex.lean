/- The walk of slices.Index at data sets. -/
import Derived.Test.YtljcmjcfebpkoaaDoorDsLawsA
import Derived.Test.YtljcmjcfebpkoaaDoorDsLawB
namespace Go.Proofs.YtljcmjcfebpkoaaDoor
set_option linter.unusedVariables false
open Go.RowKit
open DsLaw (I64 U64 cmpI lexF lt rk)

attribute [local go_sem ↓] eql_ds neq_ds
set_option maxHeartbeats 1000000 in
/-- Where the first one is. -/
theorem index_any (l : List DS) (A : Option Addr) (cap : Nat) (x : DS) (p : Nat) (hp : p < l.length) (hpx : l.getD p DsLaw.z = x) (hfirst : ∀ j, j < p → ¬ x = l.getD j DsLaw.z) (hl : l.length ≤ 4611686018427387904) (w : World) (hsl : Sl w w.heap.size 11 A (l.map dsL)) :
    Calls Tryd.prog 18 #[.slice A l.length cap, (.agg #[.int .i64 x.p1, .int .i64 x.cls, .int .i64 x.acc, .int .i64 x.vr, .int .i64 x.p2, .int .u64 x.gm, .int .i64 x.steps, .int .u64 x.snd, .int .i64 x.sp, .int .u64 x.rcv, .int .i64 x.rp])] w fun e w' => e = .returned (.int .i64 p) ∧ Below w.heap.size w w' := by
  have HX := Lib.hid (fun t => (rangeAt_ds ..).1 (rangeAt_new w t [.int .i64 x.p1, .int .i64 x.cls, .int .i64 x.acc, .int .i64 x.vr, .int .i64 x.p2, .int .u64 x.gm, .int .i64 x.steps, .int .u64 x.snd, .int .i64 x.sp, .int .u64 x.rcv, .int .i64 x.rp] _ rfl))
  have HS := Lib.hid hsl
  have HP := Lib.hid hpx
  have HFst := Lib.hid hfirst
  clear hsl hpx hfirst
  go_enter Tryd.func18, Tryd.ntmps18
  go_wp2
  go_loopw [8] (fun i wr => ∃ k : Nat, k ≤ p ∧ i = .int .i64 k ∧ (wr.cell? ⟨w.heap.size, 0, none⟩ = some (.int .i64 x.p1) ∧ wr.cell? ⟨w.heap.size, 1, none⟩ = some (.int .i64 x.cls) ∧ wr.cell? ⟨w.heap.size, 2, none⟩ = some (.int .i64 x.acc) ∧ wr.cell? ⟨w.heap.size, 3, none⟩ = some (.int .i64 x.vr) ∧ wr.cell? ⟨w.heap.size, 4, none⟩ = some (.int .i64 x.p2) ∧ wr.cell? ⟨w.heap.size, 5, none⟩ = some (.int .u64 x.gm) ∧ wr.cell? ⟨w.heap.size, 6, none⟩ = some (.int .i64 x.steps) ∧ wr.cell? ⟨w.heap.size, 7, none⟩ = some (.int .u64 x.snd) ∧ wr.cell? ⟨w.heap.size, 8, none⟩ = some (.int .i64 x.sp) ∧ wr.cell? ⟨w.heap.size, 9, none⟩ = some (.int .u64 x.rcv) ∧ wr.cell? ⟨w.heap.size, 10, none⟩ = some (.int .i64 x.rp)) ∧ Below w.heap.size w wr) (fun i _ => l.length - (intOf i).toNat)
  case atStart => exact ⟨0, Nat.zero_le _, rfl, HX.out _, (Below.refl _ _).alloc (Nat.le_refl _) _⟩
  case round =>
    obtain ⟨k, hkp, rfl, hx, hb⟩ := hrel
    have hlt : k < l.length := by omega
    have hlt' : (k : Int) < (l.length : Int) := by omega
    obtain ⟨b, off, rfl, hbB, hc⟩ := HS.out.ds (by omega)
    have hk := dscells_keep (fun o => hb.cell (p := ⟨b, o, none⟩) hbB) (hc k hlt)
    have HPK := Lib.hid (HFst.out k)
    have HXX := Lib.hid hx
    have HBB := Lib.hid hb
    have hgd : k = p → l.getD k DsLaw.z = x := fun h => by rw [h]; exact HP.out
    generalize l.getD k DsLaw.z = d at hk HPK hgd
    have HGD := Lib.hid hgd
    clear hc hb HFst HP hgd
    obtain ⟨c0, c1, c2, c3, c4, c5, c6, c7, c8, c9, c10⟩ := hx
    obtain ⟨d0, d1, d2, d3, d4, d5, d6, d7, d8, d9, d10⟩ := hk
    by_cases hkp2 : k = p
    · have hd := HGD.out hkp2
      have hdx : decide (x = d) = true := by simp [hd]
      have HKP := Lib.hid hkp2
      clear hkp2 hd
      go_wp2_with fail
      go_quiet (fail)
      go_wp2
      go_ret
      exact ⟨ret_int (by rw [HKP.out]), below_drewN HBB.out _⟩
    · have hd : ¬ x = d := HPK.out (by omega)
      have hdx : decide (x = d) = false := by simp [hd]
      have HKP := Lib.hid hkp2
      clear hkp2 hd
      go_wp2_with fail
      go_quiet (fail)
      go_wp2
      go_roundw
      case rel => exact ⟨k + 1, by have := HKP.out; omega, by go_num, HXX.out, below_drewN HBB.out _⟩
      case measure => simp [intOf]; omega
end Go.Proofs.YtljcmjcfebpkoaaDoor
