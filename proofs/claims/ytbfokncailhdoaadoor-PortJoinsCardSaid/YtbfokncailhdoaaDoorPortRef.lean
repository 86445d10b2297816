/- Walks of the reference of package port: each function computes its plain law. -/
import Derived.Test.YtbfokncailhdoaaDoorRows
import Derived.Test.YtbfokncailhdoaaDoorPortWalks
import Derived.Deep.QuietTactic
import Derived.BigQuiet
import Derived.Test.YtbfokncailhdoaaDoorGen
import Derived.WalkKit
import Derived.ProofKit
import Derived.WalkLawsBesides
import Derived.Outline
import Derived.Deep.Light
namespace Go.Proofs.YtbfokncailhdoaaDoor
set_option linter.unusedVariables false
open Go.RowKit

theorem r_known_any (n : Int) (w : World) : Calls Tryd.prog 24 #[.int .i64 n] w fun e w' => e = .returned (.bool (decide (1 ≤ n ∧ n ≤ 9))) ∧ w = w' := by
  by_cases h1 : 1 ≤ n <;> by_cases h2 : n ≤ 9
  all_goals
    go_enter Tryd.func24, Tryd.ntmps24
    go_wp2
    go_ret
    simp [*]
theorem r_active_any (n : Int) (w : World) : Calls Tryd.prog 26 #[.int .i64 n] w fun e w' => e = .returned (.bool (decide (4 ≤ n ∧ n ≤ 9))) ∧ w = w' := by
  by_cases h1 : 4 ≤ n <;> by_cases h2 : n ≤ 9
  all_goals
    go_enter Tryd.func26, Tryd.ntmps26
    go_wp2
    go_ret
    simp [*]
theorem r_isEvent_any (n : Int) (w : World) : Calls Tryd.prog 25 #[.int .i64 n] w fun e w' => e = .returned (.bool (PortLaw.isEv n)) ∧ w = w' := by
  by_cases h1 : 1 ≤ n <;> by_cases h2 : n ≤ 10 <;> by_cases h3 : 20 ≤ n <;> by_cases h4 : n ≤ 26
  all_goals
    go_enter Tryd.func25, Tryd.ntmps25
    go_wp2
    try (go_ret; simp [*, PortLaw.isEv])
theorem r_uses_any (n : Int) (w : World) : Calls Tryd.prog 15 #[.int .i64 n] w fun e w' => e = .returned (.bool (decide (n = 8 ∨ n = 9))) ∧ w = w' := by
  by_cases h1 : n = 8 <;> by_cases h2 : n = 9
  all_goals
    go_enter Tryd.func15, Tryd.ntmps15
    go_wp2
    try (go_ret; simp [*])
theorem r_decided_any (s c : Int) (same : Bool) (w : World) : Calls Tryd.prog 27 #[.int .i64 s, .int .i64 c, .bool same] w fun e w' => e = .returned (.int .i64 (PortLaw.rdec s c same)) ∧ w = w' := by
  go_enter Tryd.func27, Tryd.ntmps27
  go_wp2_with (go_at_call 15; refine (r_uses_any _ _).mono ?_; rintro en w' ⟨rfl, rfl⟩)
  all_goals (go_ret; go_light; refine ⟨ret_int ?_, rfl⟩; grind [PortLaw.rdec])
theorem r_next_any (s e : Int) (same : Bool) (w : World) : Calls Tryd.prog 11 #[.int .i64 s, .int .i64 e, .bool same] w fun en w' => en = .returned (.int .i64 (PortLaw.rnxt s e same)) ∧ w = w' := by
  by_cases hs : 1 ≤ s ∧ s ≤ 9
  · have hk : decide (1 ≤ s ∧ s ≤ 9) = true := by simpa using hs
    cases hi : PortLaw.isEv e
    · have hr : PortLaw.rnxt s e same = 0 := by simp [PortLaw.rnxt, hi]
      rw [hr]
      clear hs hr
      go_enter Tryd.func11, Tryd.ntmps11
      go_wp2_with (first | (go_at_call 24; refine (r_known_any _ _).mono ?_; rintro en w' ⟨rfl, rfl⟩) | (go_at_call 25; refine (r_isEvent_any _ _).mono ?_; rintro en w' ⟨rfl, rfl⟩))
      go_ret
      exact ⟨rfl, rfl⟩
    · have hr : PortLaw.rnxt s e same = PortLaw.rnxtA s e same := PortLaw.rnxt_in s e same hs hi
      have hle : 1 ≤ e ∧ e ≤ 26 := PortLaw.isEv_le e hi
      obtain ⟨hle1, hle2⟩ := hle
      rw [hr]
      clear hs hr
      go_enter Tryd.func11, Tryd.ntmps11
      go_wp2_with (first | (go_at_call 24; refine (r_known_any _ _).mono ?_; rintro en w' ⟨rfl, rfl⟩) | (go_at_call 25; refine (r_isEvent_any _ _).mono ?_; rintro en w' ⟨rfl, rfl⟩) | (go_at_call 26; refine (r_active_any _ _).mono ?_; rintro en w' ⟨rfl, rfl⟩) | (go_at_call 27; refine (r_decided_any _ _ _ _).mono ?_; rintro en w' ⟨rfl, rfl⟩))
      all_goals (go_ret; go_light; refine ⟨ret_int ?_, rfl⟩; grind [PortLaw.rnxtA])
  · have hk : decide (1 ≤ s ∧ s ≤ 9) = false := by simpa using hs
    have hr : PortLaw.rnxt s e same = 0 := by simp [PortLaw.rnxt, hs]
    rw [hr]
    clear hs hr
    go_enter Tryd.func11, Tryd.ntmps11
    go_wp2_with (go_at_call 24; refine (r_known_any _ _).mono ?_; rintro en w' ⟨rfl, rfl⟩)
    go_ret
    exact ⟨rfl, rfl⟩
theorem r_nxt_any (s e : Int) (same : Bool) (w : World) : Calls Tryd.prog 11 #[.int .i64 s, .int .i64 e, .bool same] w fun en w' => en = .returned (.int .i64 (PortLaw.nxt s e same)) ∧ w' = w := by
  rw [← PortLaw.rnxt_eq]
  exact (r_next_any s e same w).mono fun en w' h => ⟨h.1, h.2.symm⟩
theorem r_nxtl_any (s e : Int) (same : Bool) (w : World) : Calls Tryd.prog 11 #[.int .i64 s, .int .i64 e, .bool same] w fun en w' => en = .returned (.int .i64 (PortLaw.nxt s e same)) ∧ w = w' :=
  (r_nxt_any s e same w).mono fun en w' h => ⟨h.1, h.2.symm⟩
theorem r_sends_any (n : Int) (w : World) : Calls Tryd.prog 13 #[.int .i64 n] w fun e w' => e = .returned (.bool (decide (n = 6))) ∧ w = w' := by
  by_cases h1 : n = 6
  all_goals
    go_enter Tryd.func13, Tryd.ntmps13
    go_wp2
    go_ret
    simp [*]
theorem r_name_any (n : Int) (w : World) : Calls Tryd.prog 17 #[.int .i64 n] w fun e w' => e = .returned (.string (PortLaw.nm n)) ∧ w = w' := by
  by_cases hs : 1 ≤ n ∧ n ≤ 9
  · rcases PortLaw.cases9 n hs with rfl | rfl | rfl | rfl | rfl | rfl | rfl | rfl | rfl
    all_goals
      clear hs
      go_enter Tryd.func17, Tryd.ntmps17
      go_wp2
      go_ret
      exact ⟨rfl, rfl⟩
  · have e : PortLaw.nm n = ⟨#[]⟩ := by
      have : PortLaw.nmL n = [] := by
        unfold PortLaw.nmL
        repeat rw [if_neg (by omega)]
      simp [PortLaw.nm, this]
    rw [e]
    have h1 : (n == 1) = false := by simp; omega
    have h2 : (n == 2) = false := by simp; omega
    have h3 : (n == 3) = false := by simp; omega
    have h4 : (n == 4) = false := by simp; omega
    have h5 : (n == 5) = false := by simp; omega
    have h6 : (n == 6) = false := by simp; omega
    have h7 : (n == 7) = false := by simp; omega
    have h8 : (n == 8) = false := by simp; omega
    have h9 : (n == 9) = false := by simp; omega
    clear hs e
    go_enter Tryd.func17, Tryd.ntmps17
    go_wp2
    go_ret
    exact ⟨rfl, rfl⟩

theorem r_run_in (s : Int) (l : List (Int × Bool)) (A : Option Addr) (cap : Nat) (w : World) (hs : 1 ≤ s ∧ s ≤ 9) (hl : l.length ≤ 4611686018427387904) (hsl : Sl w w.heap.size 2 A (l.map evC)) :
    Calls Tryd.prog 21 #[.int .i64 s, .slice A l.length cap] w fun e w' => e = .returned (.int .i64 (PortLaw.run s l)) ∧ Below w.heap.size w w' := by
  have hk : decide (1 ≤ s ∧ s ≤ 9) = true := by simpa using hs
  have hne := Lib.hid hs.1
  clear hs
  go_enter Tryd.func21, Tryd.ntmps21
  go_wp2_with (go_at_call 24; refine (r_known_any _ _).mono ?_; rintro en w' ⟨rfl, rfl⟩)
  go_loopw [0, 5] (fun v i wr => ∃ k : Nat, k ≤ l.length ∧ i = .int .i64 k ∧ v = .int .i64 (PortLaw.run s (l.take k)) ∧ 1 ≤ PortLaw.run s (l.take k) ∧ Below w.heap.size w wr) (fun _ i _ => l.length - (intOf i).toNat)
  case atStart => exact ⟨0, Nat.zero_le _, rfl, rfl, hne.out, Below.refl _ _⟩
  case round =>
    obtain ⟨k, hkl, rfl, rfl, hp, hb⟩ := hrel
    by_cases hlt : k < l.length
    · obtain ⟨b, off, rfl, hbB, hc⟩ := hsl (by simp; omega)
      have hx : (l.map evC)[k]? = some (evC l[k]) := by simp [hlt]
      have h0 : wr.cell? ⟨b, off + k * 2, none⟩ = some (.int .i64 l[k].1) := (hb.cell (p := ⟨b, _, none⟩) hbB).trans (hc k _ hx 0 _ rfl)
      have h1 : wr.cell? ⟨b, off + k * 2 + 1, none⟩ = some (.bool l[k].2) := (hb.cell (p := ⟨b, _, none⟩) hbB).trans (hc k _ hx 1 _ rfl)
      have hr : PortLaw.run s (l.take (k + 1)) = PortLaw.nxt (PortLaw.run s (l.take k)) l[k].1 l[k].2 := by
        rw [List.take_succ_eq_append_getElem hlt, PortLaw.run_snoc]
      have hr2 : PortLaw.nxt (PortLaw.run s (l.take k)) l[k].1 l[k].2 = 0 → PortLaw.run s l = 0 := fun h0 => by
        have : l = l.take (k + 1) ++ l.drop (k + 1) := (List.take_append_drop _ _).symm
        rw [this, PortLaw.run_append, hr, h0, PortLaw.run_zero]
      have hnn := (PortLaw.nxt_range (PortLaw.run s (l.take k)) l[k].1 l[k].2).1
      have HR := Lib.hid hr
      have HR2 := Lib.hid hr2
      have hlt' : (k : Int) < (l.length : Int) := by omega
      clear hr hr2 hx hc hsl
      by_cases hz : PortLaw.nxt (PortLaw.run s (l.take k)) l[k].1 l[k].2 = 0
      · have hzb : (PortLaw.nxt (PortLaw.run s (l.take k)) l[k].1 l[k].2 == 0) = true := by simp [hz]
        have HZ := Lib.hid (HR2.out hz)
        clear hz
        go_wp2_with fail
        go_quiet ((go_at_call 11; exact Calls.quiet_of_same (r_nxt_any _ _ _ _)))
        go_wp2
        go_ret
        exact ⟨ret_int HZ.out.symm, below_drewN hb _⟩
      · have hzb : (PortLaw.nxt (PortLaw.run s (l.take k)) l[k].1 l[k].2 == 0) = false := by simp [hz]
        have hz1 : 1 ≤ PortLaw.nxt (PortLaw.run s (l.take k)) l[k].1 l[k].2 := by omega
        clear hz
        go_wp2_with fail
        go_quiet ((go_at_call 11; exact Calls.quiet_of_same (r_nxt_any _ _ _ _)))
        go_wp2
        go_roundw
        case rel => exact ⟨k + 1, by omega, by go_num, by rw [HR.out], by rw [HR.out]; exact hz1, below_drewN hb _⟩
        case measure => simp [intOf]; omega
    · have hk : k = l.length := by omega
      subst hk
      clear hsl
      go_wp2
      go_ret
      exact ⟨ret_int (by simp), hb⟩
theorem r_run_no (s : Int) (l : List (Int × Bool)) (A : Option Addr) (cap : Nat) (w : World) (hs : ¬ (1 ≤ s ∧ s ≤ 9)) :
    Calls Tryd.prog 21 #[.int .i64 s, .slice A l.length cap] w fun e w' => e = .returned (.int .i64 0) ∧ Below w.heap.size w w' := by
  have hk : decide (1 ≤ s ∧ s ≤ 9) = false := by simpa using hs
  clear hs
  go_enter Tryd.func21, Tryd.ntmps21
  go_wp2_with (go_at_call 24; refine (r_known_any _ _).mono ?_; rintro en w' ⟨rfl, rfl⟩)
  go_ret
  exact ⟨rfl, Below.refl _ _⟩
theorem r_run_any (s : Int) (l : List (Int × Bool)) (A : Option Addr) (cap : Nat) (w : World) (hl : l.length ≤ 4611686018427387904) (hsl : Sl w w.heap.size 2 A (l.map evC)) :
    Calls Tryd.prog 21 #[.int .i64 s, .slice A l.length cap] w fun e w' => e = .returned (.int .i64 (PortLaw.runK s l)) ∧ Below w.heap.size w w' := by
  by_cases hs : 1 ≤ s ∧ s ≤ 9
  · simpa [PortLaw.runK, hs] using r_run_in s l A cap w hs hl hsl
  · simpa [PortLaw.runK, hs] using r_run_no s l A cap w hs
end Go.Proofs.YtbfokncailhdoaaDoor
