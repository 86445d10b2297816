/- The walks of the laws PortDecides and PortEnters. -/
import Derived.Test.YtbfokncailhdoaaDoorPortLaws
namespace Go.Proofs.YtbfokncailhdoaaDoor
set_option linter.unusedVariables false
open Go.RowKit

set_option maxHeartbeats 400000 in
theorem portDecides_walk (st code : Int) (same : Bool) (w : World) (ht : PortTab w) (hn : NameTab w) (h0 : 0 ≤ st) (h1 : st ≤ 255) (h2 : 0 ≤ code) (h3 : code ≤ 255) :
    Calls Tryd.prog 7 #[.int .u8 st, .int .u8 code, .bool same] w fun e w' => e = .returned (.bool true) ∧ Below w.heap.size w w' := by
  have hf := Lib.hid (PortLaw.decides (st % 6 + 4) (code % 7) same (by omega) (by omega))
  go_enter Tryd.func7, Tryd.ntmps7
  go_wp2_with (first | (go_at_call 10; refine (next_any _ _ _ _ ht).mono ?_; rintro en w' ⟨rfl, rfl⟩) | (go_at_call 18; refine (awake_any _ ht hn).mono ?_; rintro en w2 ⟨rfl, hb2⟩))
  all_goals (go_ret; go_light; first | exact ⟨rfl, hb2⟩ | (exfalso; obtain ⟨q1, q2⟩ := hf.out; clear hf; grind) | (refine ⟨ret_bool ?_, hb2⟩; obtain ⟨q1, q2⟩ := hf.out; clear hf; grind))

set_option maxRecDepth 100000 in
set_option maxHeartbeats 1000000 in
theorem portEnters_walk (s : Int) (l : List (Int × Bool)) (A : Option Addr) (cap : Nat) (w : World) (ht : PortTab w) (hn : NameTab w) (hl : l.length ≤ cap) (hc : cap ≤ 9223372036854775807) (hsl : Sl w w.heap.size 2 A (l.map evC)) :
    Calls Tryd.prog 5 #[.int .i64 s, .slice A l.length cap] w fun e w' => e = .returned (.bool true) ∧ Below w.heap.size w w' := by
  obtain ⟨m, hm⟩ : ∃ m, m = l.take 300 := ⟨_, rfl⟩
  have hfirst := first_any A l m cap w hl hc hm
  have hsm : Sl w w.heap.size 2 A (m.map evC) := by rw [hm, List.map_take]; exact hsl.take 300
  have hm3 : m.length ≤ 4611686018427387904 := by rw [hm, List.length_take]; omega
  have HF := Lib.hid hfirst
  clear hfirst hm hl hsl hc
  go_enter Tryd.func5, Tryd.ntmps5
  go_wp2_with fail
  refine HF.out.mono ?_
  rintro e w' ⟨⟨c', rfl⟩, rfl⟩
  go_wp2_with fail
  go_loopw [0, 12] (fun v i wr => ∃ (k : Nat) (st : Int), k ≤ m.length ∧ i = .int .i64 k ∧ v = .int .i64 st ∧ Below w.heap.size w wr) (fun _ i _ => m.length - (intOf i).toNat)
  case atStart => exact ⟨0, s, Nat.zero_le _, rfl, rfl, Below.refl _ _⟩
  case round =>
    obtain ⟨k, st, hkl, rfl, rfl, hb⟩ := hrel
    have hT := ht.below hb ht.lt
    have hN := hn.below hb hn.lt
    by_cases hlt : k < m.length
    · obtain ⟨b, off, rfl, hbB, hc⟩ := hsm (by simp; omega)
      have hx : (m.map evC)[k]? = some (evC m[k]) := by simp [hlt]
      obtain ⟨⟨ev, sm⟩, hev⟩ : ∃ x, x = m[k] := ⟨_, rfl⟩
      rw [← hev] at hx
      have h0 : wr.cell? ⟨b, off + k * 2, none⟩ = some (.int .i64 ev) := (hb.cell (p := ⟨b, _, none⟩) hbB).trans (hc k _ hx 0 _ rfl)
      have h1 : wr.cell? ⟨b, off + k * 2 + 1, none⟩ = some (.bool sm) := (hb.cell (p := ⟨b, _, none⟩) hbB).trans (hc k _ hx 1 _ rfl)
      have hf := PortLaw.enters st ev sm _ rfl
      have hN1 : ∀ w1, PortTab w1 → Calls Tryd.prog 10 #[.int .i64 st, .int .i64 ev, .bool sm] w1 fun en w' => en = .returned (.int .i64 (PortLaw.nxt st ev sm)) ∧ w1 = w' := fun w1 h => next_any _ _ _ _ h
      generalize PortLaw.nxt st ev sm = n at hf hN1
      have hN1 := Lib.hid hN1
      clear hx hc hsm hev
      by_cases hz : n = 0
      · subst hz
        clear hf
        go_wp2_with (first | (go_at_call 10; refine (hN1.out _ (hT.alloc _)).mono ?_; rintro en w' ⟨rfl, rfl⟩) | (go_at_call 18; refine (awake_any _ (hT.alloc _) (hN.alloc _)).mono ?_; rintro en w2 ⟨rfl, hb2⟩))
        go_ret
        exact ⟨rfl, (hb.alloc hb.size _).trans (hb2.mono (by have := hb.size; simp; omega))⟩
      · obtain ⟨hn1, hn9, hf⟩ := hf hz
        have hz' : (n == 0) = false := by simpa using hz
        clear hz
        by_cases hns : n = st
        · subst hns
          clear hf
          go_wp2_with (first | (go_at_call 10; refine (hN1.out _ (hT.alloc _)).mono ?_; rintro en w' ⟨rfl, rfl⟩) | (go_at_call 18; refine (awake_any _ (hT.alloc _) (hN.alloc _)).mono ?_; rintro en w2 ⟨rfl, hb2⟩))
          go_roundw
          case rel => exact ⟨k + 1, n, by omega, by go_num, rfl, hb.alloc hb.size _⟩
          case measure => simp [intOf]; omega
        · have hf := hf hns
          have hns' : (n != st) = true := by simpa using hns
          obtain ⟨f9, f6, f8, f7, f5, f4⟩ := hf
          rcases PortLaw.cases9 n ⟨hn1, hn9⟩ with rfl | rfl | rfl | rfl | rfl | rfl | rfl | rfl | rfl
          · go_wp2_with (first | (go_at_call 10; refine (hN1.out _ (hT.alloc _)).mono ?_; rintro en w' ⟨rfl, rfl⟩) | (go_at_call 18; refine (awake_any _ (hT.alloc _) (hN.alloc _)).mono ?_; rintro en w2 ⟨rfl, hb2⟩))
            go_roundw
            case rel => exact ⟨k + 1, _, by omega, by go_num, rfl, hb.alloc hb.size _⟩
            case measure => simp [intOf]; omega
          · go_wp2_with (first | (go_at_call 10; refine (hN1.out _ (hT.alloc _)).mono ?_; rintro en w' ⟨rfl, rfl⟩) | (go_at_call 18; refine (awake_any _ (hT.alloc _) (hN.alloc _)).mono ?_; rintro en w2 ⟨rfl, hb2⟩))
            go_roundw
            case rel => exact ⟨k + 1, _, by omega, by go_num, rfl, hb.alloc hb.size _⟩
            case measure => simp [intOf]; omega
          · go_wp2_with (first | (go_at_call 10; refine (hN1.out _ (hT.alloc _)).mono ?_; rintro en w' ⟨rfl, rfl⟩) | (go_at_call 18; refine (awake_any _ (hT.alloc _) (hN.alloc _)).mono ?_; rintro en w2 ⟨rfl, hb2⟩))
            go_roundw
            case rel => exact ⟨k + 1, _, by omega, by go_num, rfl, hb.alloc hb.size _⟩
            case measure => simp [intOf]; omega
          · obtain rfl := f4 rfl
            go_wp2_with (first | (go_at_call 10; refine (hN1.out _ (hT.alloc _)).mono ?_; rintro en w' ⟨rfl, rfl⟩) | (go_at_call 18; refine (awake_any _ (hT.alloc _) (hN.alloc _)).mono ?_; rintro en w2 ⟨rfl, hb2⟩))
            go_roundw
            case rel => exact ⟨k + 1, _, by omega, by go_num, rfl, hb.alloc hb.size _⟩
            case measure => simp [intOf]; omega
          · obtain ⟨g1, g2⟩ := f5 rfl
            go_wp2_with (first | (go_at_call 10; refine (hN1.out _ (hT.alloc _)).mono ?_; rintro en w' ⟨rfl, rfl⟩) | (go_at_call 18; refine (awake_any _ (hT.alloc _) (hN.alloc _)).mono ?_; rintro en w2 ⟨rfl, hb2⟩))
            go_roundw
            case rel => exact ⟨k + 1, _, by omega, by go_num, rfl, hb.alloc hb.size _⟩
            case measure => simp [intOf]; omega
          · rcases f6 rfl with ⟨rfl, g⟩ | ⟨rfl, rfl⟩
            · have g' : (st == 5) = false := by simpa using g
              have g'' : (st != 5) = true := by simpa using g
              go_wp2_with (first | (go_at_call 10; refine (hN1.out _ (hT.alloc _)).mono ?_; rintro en w' ⟨rfl, rfl⟩) | (go_at_call 18; refine (awake_any _ (hT.alloc _) (hN.alloc _)).mono ?_; rintro en w2 ⟨rfl, hb2⟩))
              go_roundw
              case rel => exact ⟨k + 1, _, by omega, by go_num, rfl, hb.alloc hb.size _⟩
              case measure => simp [intOf]; omega
            · go_wp2_with (first | (go_at_call 10; refine (hN1.out _ (hT.alloc _)).mono ?_; rintro en w' ⟨rfl, rfl⟩) | (go_at_call 18; refine (awake_any _ (hT.alloc _) (hN.alloc _)).mono ?_; rintro en w2 ⟨rfl, hb2⟩))
              go_roundw
              case rel => exact ⟨k + 1, _, by omega, by go_num, rfl, hb.alloc hb.size _⟩
              case measure => simp [intOf]; omega
          · rcases f7 rfl with rfl | rfl
            · go_wp2_with (first | (go_at_call 10; refine (hN1.out _ (hT.alloc _)).mono ?_; rintro en w' ⟨rfl, rfl⟩) | (go_at_call 18; refine (awake_any _ (hT.alloc _) (hN.alloc _)).mono ?_; rintro en w2 ⟨rfl, hb2⟩))
              go_roundw
              case rel => exact ⟨k + 1, _, by omega, by go_num, rfl, hb.alloc hb.size _⟩
              case measure => simp [intOf]; omega
            · go_wp2_with (first | (go_at_call 10; refine (hN1.out _ (hT.alloc _)).mono ?_; rintro en w' ⟨rfl, rfl⟩) | (go_at_call 18; refine (awake_any _ (hT.alloc _) (hN.alloc _)).mono ?_; rintro en w2 ⟨rfl, hb2⟩))
              go_roundw
              case rel => exact ⟨k + 1, _, by omega, by go_num, rfl, hb.alloc hb.size _⟩
              case measure => simp [intOf]; omega
          · rcases f8 rfl with rfl | ⟨rfl, rfl⟩
            · go_wp2_with (first | (go_at_call 10; refine (hN1.out _ (hT.alloc _)).mono ?_; rintro en w' ⟨rfl, rfl⟩) | (go_at_call 18; refine (awake_any _ (hT.alloc _) (hN.alloc _)).mono ?_; rintro en w2 ⟨rfl, hb2⟩))
              go_roundw
              case rel => exact ⟨k + 1, _, by omega, by go_num, rfl, hb.alloc hb.size _⟩
              case measure => simp [intOf]; omega
            · go_wp2_with (first | (go_at_call 10; refine (hN1.out _ (hT.alloc _)).mono ?_; rintro en w' ⟨rfl, rfl⟩) | (go_at_call 18; refine (awake_any _ (hT.alloc _) (hN.alloc _)).mono ?_; rintro en w2 ⟨rfl, hb2⟩))
              go_roundw
              case rel => exact ⟨k + 1, _, by omega, by go_num, rfl, hb.alloc hb.size _⟩
              case measure => simp [intOf]; omega
          · obtain ⟨rfl, rfl⟩ := f9 rfl
            go_wp2_with (first | (go_at_call 10; refine (hN1.out _ (hT.alloc _)).mono ?_; rintro en w' ⟨rfl, rfl⟩) | (go_at_call 18; refine (awake_any _ (hT.alloc _) (hN.alloc _)).mono ?_; rintro en w2 ⟨rfl, hb2⟩))
            go_roundw
            case rel => exact ⟨k + 1, _, by omega, by go_num, rfl, hb.alloc hb.size _⟩
            case measure => simp [intOf]; omega
    · clear hsm
      go_wp2_with (go_at_call 18; refine (awake_any _ hT hN).mono ?_; rintro en w2 ⟨rfl, hb2⟩)
      go_ret
      exact ⟨rfl, hb.trans (hb2.mono hb.size)⟩
end Go.Proofs.YtbfokncailhdoaaDoor
