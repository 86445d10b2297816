/- Walks of package port: each function computes its plain law. -/
import Derived.Test.YtbfokncailhdoaaDoorRows
import Derived.Test.YtbfokncailhdoaaDoorPortLaw
import Derived.Test.YtbfokncailhdoaaDoorGen
import Derived.Deep.Light
import Derived.Lib.Hide
import Derived.WalkKit
import Derived.ProofKit
import Derived.WalkLawsBesides
import Derived.Outline
namespace Go.Proofs.YtbfokncailhdoaaDoor
set_option linter.unusedVariables false
open Go.RowKit

theorem known_any (n : Int) (w : World) : Calls Tryd.prog 23 #[.int .i64 n] w fun e w' => e = .returned (.bool (decide (1 ≤ n ∧ n ≤ 9))) ∧ w = w' := by
  by_cases h1 : 1 ≤ n <;> by_cases h2 : n ≤ 9
  all_goals
    go_enter Tryd.func23, Tryd.ntmps23
    go_wp2
    go_ret
    simp [*]

def PortTab (w : World) : Prop := ∀ i : Nat, i < 170 → w.cell? ⟨0, i, none⟩ = some (.int .i64 (PortLaw.tbl.getD i 0))

theorem next_no (s e : Int) (same : Bool) (w : World) (h : ¬(1 ≤ s ∧ s ≤ 9)) :
    Calls Tryd.prog 10 #[.int .i64 s, .int .i64 e, .bool same] w fun en w' => en = .returned (.int .i64 0) ∧ w = w' := by
  have hk : decide (1 ≤ s ∧ s ≤ 9) = false := by simpa using h
  clear h
  go_enter Tryd.func10, Tryd.ntmps10
  go_wp2_with (go_at_call 23; refine (known_any _ _).mono ?_; rintro en w' ⟨rfl, rfl⟩)
  go_ret
  exact ⟨rfl, rfl⟩
theorem next_none (s e : Int) (same : Bool) (w : World) (h1 : ¬(1 ≤ e ∧ e ≤ 10)) (h2 : ¬ (20 ≤ e ∧ e ≤ 26)) (hs : 1 ≤ s ∧ s ≤ 9) :
    Calls Tryd.prog 10 #[.int .i64 s, .int .i64 e, .bool same] w fun en w' => en = .returned (.int .i64 0) ∧ w = w' := by
  have hk : decide (1 ≤ s ∧ s ≤ 9) = true := by simpa using hs
  by_cases h3 : 1 ≤ e <;> by_cases h4 : 20 ≤ e
  all_goals
    go_enter Tryd.func10, Tryd.ntmps10
    go_wp2_with (go_at_call 23; refine (known_any _ _).mono ?_; rintro en w' ⟨rfl, rfl⟩)
    all_goals (go_ret; exact ⟨rfl, rfl⟩)
theorem next_ev (s e : Int) (same : Bool) (v : Int) (w : World) (hs : 1 ≤ s ∧ s ≤ 9) (he : 1 ≤ e) (he2 : e ≤ 10)
    (hc : w.cell? ⟨0, (e.toNat - 1) * 10 + s.toNat, none⟩ = some (.int .i64 v)) :
    Calls Tryd.prog 10 #[.int .i64 s, .int .i64 e, .bool same] w fun en w' => en = .returned (.int .i64 v) ∧ w = w' := by
  have hk : decide (1 ≤ s ∧ s ≤ 9) = true := by simpa using hs
  have hne : (e - 1 == 16) = false := by simp; omega
  have hs1 := hs.1
  have hs2 := hs.2
  clear hs
  go_enter Tryd.func10, Tryd.ntmps10
  go_wp2_with (go_at_call 23; refine (known_any _ _).mono ?_; rintro en w' ⟨rfl, rfl⟩)
  go_ret
  exact ⟨rfl, rfl⟩
theorem next_code (s e : Int) (same : Bool) (v : Int) (w : World) (hs : 1 ≤ s ∧ s ≤ 9) (he : 20 ≤ e) (he2 : e ≤ 25)
    (hc : w.cell? ⟨0, (e.toNat - 10) * 10 + s.toNat, none⟩ = some (.int .i64 v)) :
    Calls Tryd.prog 10 #[.int .i64 s, .int .i64 e, .bool same] w fun en w' => en = .returned (.int .i64 v) ∧ w = w' := by
  have hk : decide (1 ≤ s ∧ s ≤ 9) = true := by simpa using hs
  have hne : (10 + e - 20 == 16) = false := by simp; omega
  have hs1 := hs.1
  have hs2 := hs.2
  clear hs
  have ho : (10 + e - 20).toNat = e.toNat - 10 := by omega
  go_enter Tryd.func10, Tryd.ntmps10
  go_wp2_with (go_at_call 23; refine (known_any _ _).mono ?_; rintro en w' ⟨rfl, rfl⟩)
  go_ret
  exact ⟨rfl, rfl⟩
theorem next_s1 (s : Int) (same : Bool) (w : World) (hs : 1 ≤ s ∧ s ≤ 9) (hc : PortTab w) :
    Calls Tryd.prog 10 #[.int .i64 s, .int .i64 26, .bool same] w fun en w' => en = .returned (.int .i64 (PortLaw.nxt s 26 same)) ∧ w = w' := by
  rcases PortLaw.cases9 s hs with rfl | rfl | rfl | rfl | rfl | rfl | rfl | rfl | rfl
  all_goals
    have h0 := hc 161 (by omega)
    have h1 := hc 162 (by omega)
    have h2 := hc 163 (by omega)
    have h3 := hc 164 (by omega)
    have h4 := hc 165 (by omega)
    have h5 := hc 166 (by omega)
    have h6 := hc 167 (by omega)
    have h7 := hc 168 (by omega)
    have h8 := hc 169 (by omega)
    clear hc
    cases same
  all_goals
    go_enter Tryd.func10, Tryd.ntmps10
    go_wp2_with (go_at_call 23; refine (known_any _ _).mono ?_; rintro en w' ⟨rfl, rfl⟩)
    go_ret
    exact ⟨rfl, rfl⟩
theorem next_any (s e : Int) (same : Bool) (w : World) (hc : PortTab w) :
    Calls Tryd.prog 10 #[.int .i64 s, .int .i64 e, .bool same] w fun en w' => en = .returned (.int .i64 (PortLaw.nxt s e same)) ∧ w = w' := by
  by_cases hs : 1 ≤ s ∧ s ≤ 9
  · by_cases h1 : 1 ≤ e ∧ e ≤ 10
    · refine (next_ev s e same _ w hs h1.1 h1.2 (hc _ (by omega))).mono fun en w' h => ?_
      simpa [PortLaw.nxt, hs, h1] using h
    · by_cases h2 : 20 ≤ e ∧ e ≤ 26
      · by_cases h3 : e = 26
        · subst h3; exact next_s1 s same w hs hc
        · refine (next_code s e same _ w hs h2.1 (by omega) (hc _ (by omega))).mono fun en w' h => ?_
          simpa [PortLaw.nxt, hs, h1, h2, h3] using h
      · refine (next_none s e same w h1 h2 hs).mono fun en w' h => ?_
        simpa [PortLaw.nxt, hs, h1, h2] using h
  · refine (next_no s e same w hs).mono fun en w' h => ?_
    simpa [PortLaw.nxt, hs] using h
theorem sends_any (n : Int) (w : World) : Calls Tryd.prog 12 #[.int .i64 n] w fun e w' => e = .returned (.bool (decide (n = 6))) ∧ w = w' := by
  by_cases h1 : n = 6
  all_goals
    go_enter Tryd.func12, Tryd.ntmps12
    go_wp2
    go_ret
    simp [*]
theorem uses_any (n : Int) (w : World) : Calls Tryd.prog 14 #[.int .i64 n] w fun e w' => e = .returned (.bool (decide (n = 8 ∨ n = 9))) ∧ w = w' := by
  by_cases h1 : n = 8 <;> by_cases h2 : n = 9
  all_goals
    go_enter Tryd.func14, Tryd.ntmps14
    go_wp2
    try (go_ret; simp [*])
def NameTab (w : World) : Prop := ∀ i : Nat, i < 10 → w.cell? ⟨1, i, none⟩ = some (.string (PortLaw.nm i))
theorem name_any (n : Int) (w : World) (hc : NameTab w) : Calls Tryd.prog 16 #[.int .i64 n] w fun e w' => e = .returned (.string (PortLaw.nm n)) ∧ w = w' := by
  by_cases hs : 1 ≤ n ∧ n ≤ 9
  · have h := hc n.toNat (by omega)
    have hn : ((n.toNat : Nat) : Int) = n := by omega
    rw [hn] at h
    have hk : decide (1 ≤ n ∧ n ≤ 9) = true := by simpa using hs
    obtain ⟨h1, h2⟩ := hs
    clear hn
    go_enter Tryd.func16, Tryd.ntmps16
    go_wp2_with (go_at_call 23; refine (known_any _ _).mono ?_; rintro en w' ⟨rfl, rfl⟩)
    go_ret
    exact ⟨rfl, rfl⟩
  · have hk : decide (1 ≤ n ∧ n ≤ 9) = false := by simpa using hs
    have e : PortLaw.nm n = ⟨#[]⟩ := by
      have : PortLaw.nmL n = [] := by
        unfold PortLaw.nmL
        repeat rw [if_neg (by omega)]
      simp [PortLaw.nm, this]
    rw [e]
    clear hs e
    go_enter Tryd.func16, Tryd.ntmps16
    go_wp2_with (go_at_call 23; refine (known_any _ _).mono ?_; rintro en w' ⟨rfl, rfl⟩)
    go_ret
    exact ⟨rfl, rfl⟩

/-- An event's cells. -/
def evC (x : Int × Bool) : List Value := [.int .i64 x.1, .bool x.2]
theorem PortTab.below {w w' : World} (h : PortTab w) {B : Nat} (hb : Below B w w') (hB : 0 < B) : PortTab w' := fun i hi => (hb.cell (p := ⟨_, i, none⟩) hB).trans (h i hi)
theorem NameTab.below {w w' : World} (h : NameTab w) {B : Nat} (hb : Below B w w') (hB : 1 < B) : NameTab w' := fun i hi => (hb.cell (p := ⟨_, i, none⟩) hB).trans (h i hi)
theorem PortTab.alloc {w : World} (h : PortTab w) (o : Obj) : PortTab (w.alloc o) := fun i hi => (World.cell?_alloc_lt w o _ (block_lt_of_cell (h i hi))).trans (h i hi)
theorem NameTab.alloc {w : World} (h : NameTab w) (o : Obj) : NameTab (w.alloc o) := fun i hi => (World.cell?_alloc_lt w o _ (block_lt_of_cell (h i hi))).trans (h i hi)
theorem PortTab.lt {w : World} (h : PortTab w) : 0 < w.heap.size := block_lt_of_cell (h 0 (by omega))
theorem NameTab.lt {w : World} (h : NameTab w) : 1 < w.heap.size := block_lt_of_cell (h 0 (by omega))

theorem run_within (s : Int) (l : List (Int × Bool)) (A : Option Addr) (cap : Nat) (w : World) (hs : 1 ≤ s ∧ s ≤ 9) (hl : l.length ≤ 4611686018427387904) (ht : PortTab w) (hsl : Sl w w.heap.size 2 A (l.map evC)) :
    Calls Tryd.prog 20 #[.int .i64 s, .slice A l.length cap] w fun e w' => e = .returned (.int .i64 (PortLaw.run s l)) ∧ Below w.heap.size w w' := by
  have hk : decide (1 ≤ s ∧ s ≤ 9) = true := by simpa using hs
  clear hs
  go_enter Tryd.func20, Tryd.ntmps20
  go_wp2_with (go_at_call 23; refine (known_any _ _).mono ?_; rintro en w' ⟨rfl, rfl⟩)
  go_loopw [0, 12] (fun v i wr => ∃ k : Nat, k ≤ l.length ∧ i = .int .i64 k ∧ v = .int .i64 (PortLaw.run s (l.take k)) ∧ Below w.heap.size w wr) (fun _ i _ => l.length - (intOf i).toNat)
  case atStart => exact ⟨0, Nat.zero_le _, rfl, rfl, Below.refl _ _⟩
  case round =>
    obtain ⟨k, hkl, rfl, rfl, hb⟩ := hrel
    by_cases hlt : k < l.length
    · obtain ⟨b, off, rfl, hbB, hc⟩ := hsl (by simp; omega)
      have hx : (l.map evC)[k]? = some (evC l[k]) := by simp [hlt]
      have h0 : wr.cell? ⟨b, off + k * 2, none⟩ = some (.int .i64 l[k].1) := (hb.cell (p := ⟨b, _, none⟩) hbB).trans (hc k _ hx 0 _ rfl)
      have h1 : wr.cell? ⟨b, off + k * 2 + 1, none⟩ = some (.bool l[k].2) := (hb.cell (p := ⟨b, _, none⟩) hbB).trans (hc k _ hx 1 _ rfl)
      have hT := ht.below hb ht.lt
      have hr : PortLaw.run s (l.take (k + 1)) = PortLaw.nxt (PortLaw.run s (l.take k)) l[k].1 l[k].2 := by
        rw [List.take_succ_eq_append_getElem hlt, PortLaw.run_snoc]
      have HR := Lib.hid hr
      clear hr hx hc hsl
      go_wp2_with (go_at_call 10; refine (next_any _ _ _ _ (hT.alloc _)).mono ?_; rintro en w' ⟨rfl, rfl⟩)
      go_roundw
      case rel => exact ⟨k + 1, by omega, by go_num, by rw [HR.out], (hb.alloc hb.size _)⟩
      case measure => simp [intOf]; omega
    · have hk : k = l.length := by omega
      subst hk
      clear hsl
      go_wp2
      go_ret
      exact ⟨ret_int (by simp), hb⟩
theorem run_no (s : Int) (l : List (Int × Bool)) (A : Option Addr) (cap : Nat) (w : World) (hs : ¬ (1 ≤ s ∧ s ≤ 9)) :
    Calls Tryd.prog 20 #[.int .i64 s, .slice A l.length cap] w fun e w' => e = .returned (.int .i64 0) ∧ Below w.heap.size w w' := by
  have hk : decide (1 ≤ s ∧ s ≤ 9) = false := by simpa using hs
  clear hs
  go_enter Tryd.func20, Tryd.ntmps20
  go_wp2_with (go_at_call 23; refine (known_any _ _).mono ?_; rintro en w' ⟨rfl, rfl⟩)
  go_ret
  exact ⟨rfl, Below.refl _ _⟩
theorem run_no0 (s : Int) (w : World) (hk : decide (1 ≤ s ∧ s ≤ 9) = false) :
    Calls Tryd.prog 20 #[.int .i64 s, .slice none 0 0] w fun e w' => e = .returned (.int .i64 0) ∧ w = w' := by
  go_enter Tryd.func20, Tryd.ntmps20
  go_wp2_with (go_at_call 23; refine (known_any _ _).mono ?_; rintro en w' ⟨rfl, rfl⟩)
  go_ret
  exact ⟨rfl, rfl⟩
theorem run_any (s : Int) (l : List (Int × Bool)) (A : Option Addr) (cap : Nat) (w : World) (hl : l.length ≤ 4611686018427387904) (ht : PortTab w) (hsl : Sl w w.heap.size 2 A (l.map evC)) :
    Calls Tryd.prog 20 #[.int .i64 s, .slice A l.length cap] w fun e w' => e = .returned (.int .i64 (PortLaw.runK s l)) ∧ Below w.heap.size w w' := by
  by_cases hs : 1 ≤ s ∧ s ≤ 9
  · simpa [PortLaw.runK, hs] using run_within s l A cap w hs hl ht hsl
  · simpa [PortLaw.runK, hs] using run_no s l A cap w hs
end Go.Proofs.YtbfokncailhdoaaDoor
