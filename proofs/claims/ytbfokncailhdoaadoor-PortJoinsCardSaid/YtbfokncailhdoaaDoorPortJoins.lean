/- The walk of the law PortJoins. -/
import Derived.Test.YtbfokncailhdoaaDoorPortGrow
namespace Go.Proofs.YtbfokncailhdoaaDoor
set_option linter.unusedVariables false
open Go.RowKit

theorem joins_mid (s : Int) (l : List (Int × Bool)) : PortLaw.runK s l = PortLaw.run (PortLaw.runK s []) l := by
  by_cases hs : 1 ≤ s ∧ s ≤ 9
  · simp [PortLaw.runK, hs, PortLaw.run]
  · simp [PortLaw.runK, hs, PortLaw.run_zero]
theorem joins_all (s : Int) (l m : List (Int × Bool)) : PortLaw.runK (PortLaw.runK s l) m = PortLaw.runK s (l ++ m) := by
  by_cases hs : 1 ≤ s ∧ s ≤ 9
  · have h := PortLaw.run_range s hs l
    have e : PortLaw.runK s l = PortLaw.run s l := if_pos hs
    have e2 : PortLaw.runK s (l ++ m) = PortLaw.run s (l ++ m) := if_pos hs
    rw [e, e2, PortLaw.run_append]
    by_cases h0 : PortLaw.run s l = 0
    · rw [h0, PortLaw.run_zero]; rfl
    · exact if_pos (by omega)
  · have e : PortLaw.runK s l = 0 := if_neg hs
    have e2 : PortLaw.runK s (l ++ m) = 0 := if_neg hs
    rw [e, e2]; rfl

set_option maxHeartbeats 1000000 in
theorem portJoins_walk (s : Int) (l m : List (Int × Bool)) (A B : Option Addr) (ca cb : Nat) (w : World) (ht : PortTab w) (hn : NameTab w) (hl : l.length ≤ ca) (hca : ca ≤ 9223372036854775807) (hsl : Sl w w.heap.size 2 A (l.map evC))
    (hm : m.length ≤ cb) (hcb : cb ≤ 9223372036854775807) (hsm : Sl w w.heap.size 2 B (m.map evC)) :
    Calls Tryd.prog 9 #[.int .i64 s, .slice A l.length ca, .slice B m.length cb] w fun e w' => e = .returned (.bool true) ∧ Below w.heap.size w w' := by
  obtain ⟨l1, hl1⟩ : ∃ m, m = l.take 300 := ⟨_, rfl⟩
  obtain ⟨m1, hm1⟩ : ∃ x, x = m.take 300 := ⟨_, rfl⟩
  have HF1 := Lib.hid (first_any A l l1 ca w hl hca hl1)
  have HF2 := Lib.hid (first_any B m m1 cb w hm hcb hm1)
  have hs1 : Sl w w.heap.size 2 A (l1.map evC) := by rw [hl1, List.map_take]; exact hsl.take 300
  have hs2 : Sl w w.heap.size 2 B (m1.map evC) := by rw [hm1, List.map_take]; exact hsm.take 300
  have k1 : l1.length ≤ 300 := by rw [hl1, List.length_take]; omega
  have k2 : m1.length ≤ 300 := by rw [hm1, List.length_take]; omega
  have J1 := Lib.hid (joins_mid s l1)
  have J2 := Lib.hid (joins_all s l1 m1)
  clear hl hca hl1 hm hcb hm1 hsl hsm
  go_enter Tryd.func9, Tryd.ntmps9
  go_wp2_with fail
  refine HF1.out.mono ?_
  rintro e w' ⟨⟨c1, rfl⟩, rfl⟩
  go_wp2_with fail
  refine HF2.out.mono ?_
  rintro e w' ⟨⟨c2, rfl⟩, rfl⟩
  go_wp2_with fail
  refine (run_any s l1 A c1 w (by omega) ht hs1).mono ?_
  rintro e w1 ⟨rfl, hb1⟩
  go_wp2_with fail
  refine (run_nil s w1 (ht.below hb1 ht.lt)).mono ?_
  rintro e w2 ⟨rfl, hb2⟩
  have hb2' : Below w.heap.size w w2 := hb1.trans (hb2.mono hb1.size)
  go_wp2_with fail
  go_loopw [8, 22] (fun v i wr => ∃ k : Nat, k ≤ l1.length ∧ i = .int .i64 k ∧ v = .int .i64 (PortLaw.run (PortLaw.runK s []) (l1.take k)) ∧ Below w.heap.size w wr) (fun _ i _ => l1.length - (intOf i).toNat)
  case atStart => exact ⟨0, Nat.zero_le _, rfl, rfl, hb2'⟩
  case round =>
    obtain ⟨k, hkl, rfl, rfl, hb⟩ := hrel
    clear hb1 hb2 hb2'
    by_cases hlt : k < l1.length
    · obtain ⟨b, off, rfl, hbB, hc⟩ := hs1 (by simp; omega)
      have hx : (l1.map evC)[k]? = some (evC l1[k]) := by simp [hlt]
      have h0 : wr.cell? ⟨b, off + k * 2, none⟩ = some (.int .i64 l1[k].1) := (hb.cell (p := ⟨b, _, none⟩) hbB).trans (hc k _ hx 0 _ rfl)
      have h1 : wr.cell? ⟨b, off + k * 2 + 1, none⟩ = some (.bool l1[k].2) := (hb.cell (p := ⟨b, _, none⟩) hbB).trans (hc k _ hx 1 _ rfl)
      have hT := ht.below hb ht.lt
      have hr : PortLaw.run (PortLaw.runK s []) (l1.take (k + 1)) = PortLaw.nxt (PortLaw.run (PortLaw.runK s []) (l1.take k)) l1[k].1 l1[k].2 := by
        rw [List.take_succ_eq_append_getElem hlt, PortLaw.run_snoc]
      have HR := Lib.hid hr
      clear hr hx hc hs1 hs2 J1 J2 HF1 HF2
      go_wp2_with (go_at_call 10; refine (next_any _ _ _ _ (hT.alloc _)).mono ?_; rintro en w' ⟨rfl, rfl⟩)
      go_roundw
      case rel => exact ⟨k + 1, by omega, by go_num, by rw [HR.out], (hb.alloc hb.size _)⟩
      case measure => simp [intOf]; omega
    · have hk : k = l1.length := by omega
      subst hk
      have e1 : (PortLaw.runK s l1 == PortLaw.run (PortLaw.runK s []) (l1.take l1.length)) = true := by rw [List.take_length, ← J1.out]; simp
      have hT := ht.below hb ht.lt
      have hN := hn.below hb hn.lt
      go_wp2_with fail
      rw [← J1.out]
      refine (run_any (PortLaw.runK s l1) m1 B c2 wr (by omega) hT ((hs2.below hb).more hb.size)).mono ?_
      rintro e w3 ⟨rfl, hb3⟩
      have hw3 : Below w.heap.size w w3 := hb.trans (hb3.mono hb.size)
      have t1 := (hs1.below hw3).more hw3.size
      have t2 := (hs2.below hw3).more hw3.size
      clear hb3 hb hT hN hs1 hs2
      go_wp2_with fail
      have hal : Below w.heap.size w (w3.alloc (.cells #[.slice A l1.length c1, .slice B m1.length c2] 27)) := hw3.alloc hw3.size _
      have hal3 : Below w3.heap.size w3 (w3.alloc (.cells #[.slice A l1.length c1, .slice B m1.length c2] 27)) := (Below.refl _ _).alloc (Nat.le_refl _) _
      refine (cat_any l1 m1 A B c1 c2 w3.heap.size _ k1 k2 (by rw [World.cell?_alloc_new]; rfl) (by rw [World.cell?_alloc_new]; rfl) (by simp) ((t1.below hal3).more hal3.size) ((t2.below hal3).more hal3.size)).mono ?_
      rintro e w4 ⟨C, cc, rfl, hs, hb4⟩
      have hw4 : Below w.heap.size w w4 := hal.trans (hb4.mono hal.size)
      clear hb4 hal hal3 t1 t2 hw3
      go_wp2_with fail
      have hR := run_any s (l1 ++ m1) C cc w4 (by rw [List.length_append]; omega) (ht.below hw4 ht.lt) hs
      simp only [List.length_append] at hR
      refine hR.mono ?_
      rintro e w5 ⟨rfl, hb5⟩
      have hw5 : Below w.heap.size w w5 := hw4.trans (hb5.mono hw4.size)
      have e2 : (PortLaw.runK (PortLaw.run (PortLaw.runK s []) l1) m1 == PortLaw.runK s (l1 ++ m1)) = true := by rw [← J1.out, J2.out]; simp
      clear hb5 hs hw4 hR
      go_wp2_with fail
      refine (awake_any _ (ht.below hw5 ht.lt) (hn.below hw5 hn.lt)).mono ?_
      rintro e w6 ⟨rfl, hb6⟩
      go_wp2
      go_ret
      exact ⟨rfl, hw5.trans (hb6.mono hw5.size)⟩
end Go.Proofs.YtbfokncailhdoaaDoor
