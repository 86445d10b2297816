/- The walks of the laws of layer 37. -/
import Derived.Test.YtbfokncailhdoaaDoorPortRef
namespace Go.Proofs.YtbfokncailhdoaaDoor
set_option linter.unusedVariables false
open Go.RowKit

theorem ev3 (w : World) : Sl (w.alloc (.cells #[.int .i64 2, .bool false, .int .i64 26, .bool false, .int .i64 9, .bool false] 32)) (w.alloc (.cells #[.int .i64 2, .bool false, .int .i64 26, .bool false, .int .i64 9, .bool false] 32)).heap.size 2 (some ⟨w.heap.size, 0, none⟩) ([(2, false), (26, false), (9, false)].map evC) := by
  intro _
  refine ⟨_, _, rfl, by simp, ?_⟩
  intro i x hx j u hu
  rw [World.cell?_alloc_new]
  match i, hx with
  | 0, rfl => match j, hu with
    | 0, hu => exact hu
    | 1, hu => exact hu
  | 1, rfl => match j, hu with
    | 0, hu => exact hu
    | 1, hu => exact hu
  | 2, rfl => match j, hu with
    | 0, hu => exact hu
    | 1, hu => exact hu
theorem awake_any (w : World) (ht : PortTab w) (hn : NameTab w) : Calls Tryd.prog 18 #[] w fun e w' => e = .returned (.bool true) ∧ Below w.heap.size w w' := by
  go_enter Tryd.func18, Tryd.ntmps18
  go_wp2_with fail
  refine (run_any 1 [(2, false), (26, false), (9, false)] _ _ _ (by decide) (ht.alloc _) (ev3 w)).mono ?_
  rintro e w1 ⟨rfl, hb⟩
  have hb' : Below w.heap.size w w1 := ((Below.refl _ _).alloc (Nat.le_refl _) _).trans (hb.mono (by simp))
  have ht1 := ht.below hb' ht.lt
  have hn1 := hn.below hb' hn.lt
  clear hb ht hn
  have e1 : (PortLaw.runK 1 [(2, false), (26, false), (9, false)] == 9) = true := by decide
  have e2 : (PortLaw.nxt 9 26 false == 8) = true := by decide
  have e3 : (PortLaw.nxt 9 26 true == 9) = true := by decide
  have e4 : (PortLaw.nxt 0 1 false == 0) = true := by decide
  have e5 : (PortLaw.nxt 6 11 false == 0) = true := by decide
  have e6 : PortLaw.nm 9 = ⟨#[115, 108, 97, 118, 101]⟩ := rfl
  go_wp2_with (first | (go_at_call 10; refine (next_any _ _ _ _ ht1).mono ?_; rintro en w' ⟨rfl, rfl⟩) | (go_at_call 16; refine (name_any _ _ hn1).mono ?_; rintro en w' ⟨rfl, rfl⟩) | (go_at_call 12; refine (sends_any _ _).mono ?_; rintro en w' ⟨rfl, rfl⟩) | (go_at_call 14; refine (uses_any _ _).mono ?_; rintro en w' ⟨rfl, rfl⟩))

  go_ret
  exact ⟨rfl, hb'⟩

theorem first_any (A : Option Addr) (l m : List (Int × Bool)) (cap : Nat) (w : World) (hn : l.length ≤ cap) (hc : cap ≤ 9223372036854775807) (hm : m = l.take 300) :
    Calls Tryd.prog 19 #[.slice A l.length cap] w fun e w' => (∃ c', e = .returned (.slice A m.length c')) ∧ w = w' := by
  have e1 : m.length = min 300 l.length := by rw [hm, List.length_take]
  clear hm
  generalize l.length = n at *
  generalize m.length = k at *
  by_cases h3 : n ≤ 300
  · obtain rfl : k = n := by omega
    clear e1
    go_enter Tryd.func19, Tryd.ntmps19
    go_wp2
    go_ret
    exact ⟨⟨cap, rfl⟩, rfl⟩
  · obtain rfl : k = 300 := by omega
    clear e1
    go_enter Tryd.func19, Tryd.ntmps19
    go_wp2
    go_ret
    exact ⟨⟨cap, rfl⟩, rfl⟩

theorem portNexts_walk (s e : Int) (same : Bool) (w : World) (ht : PortTab w) (hn : NameTab w) :
    Calls Tryd.prog 3 #[.int .i64 s, .int .i64 e, .bool same] w fun e w' => e = .returned (.bool true) ∧ Below w.heap.size w w' := by
  go_enter Tryd.func3, Tryd.ntmps3
  go_wp2_with (first | (go_at_call 10; refine (next_any _ _ _ _ ht).mono ?_; rintro en w' ⟨rfl, rfl⟩) | (go_at_call 11; refine (r_nxtl_any _ _ _ _).mono ?_; rintro en w' ⟨rfl, rfl⟩) | (go_at_call 16; refine (name_any _ _ hn).mono ?_; rintro en w' ⟨rfl, rfl⟩) | (go_at_call 17; refine (r_name_any _ _).mono ?_; rintro en w' ⟨rfl, rfl⟩) | (go_at_call 12; refine (sends_any _ _).mono ?_; rintro en w' ⟨rfl, rfl⟩) | (go_at_call 14; refine (uses_any _ _).mono ?_; rintro en w' ⟨rfl, rfl⟩) | (go_at_call 13; refine (r_sends_any _ _).mono ?_; rintro en w' ⟨rfl, rfl⟩) | (go_at_call 15; refine (r_uses_any _ _).mono ?_; rintro en w' ⟨rfl, rfl⟩) | (go_at_call 18; refine (awake_any _ ht hn).mono ?_; rintro en w' ⟨rfl, hb⟩))
  go_ret
  exact ⟨rfl, hb⟩

theorem portRuns_walk (s : Int) (l : List (Int × Bool)) (A : Option Addr) (cap : Nat) (w : World) (ht : PortTab w) (hn : NameTab w) (hl : l.length ≤ cap) (hc : cap ≤ 9223372036854775807) (hsl : Sl w w.heap.size 2 A (l.map evC)) :
    Calls Tryd.prog 4 #[.int .i64 s, .slice A l.length cap] w fun e w' => e = .returned (.bool true) ∧ Below w.heap.size w w' := by
  obtain ⟨m, hm⟩ : ∃ m, m = l.take 300 := ⟨_, rfl⟩
  have hfirst := first_any A l m cap w hl hc hm
  have hsm : Sl w w.heap.size 2 A (m.map evC) := by rw [hm, List.map_take]; exact hsl.take 300
  have hm3 : m.length ≤ 4611686018427387904 := by rw [hm, List.length_take]; omega
  have HF := Lib.hid hfirst
  clear hfirst hm hl hsl hc
  go_enter Tryd.func4, Tryd.ntmps4
  go_wp2_with fail
  refine HF.out.mono ?_
  rintro e w' ⟨⟨c', rfl⟩, rfl⟩
  go_wp2_with fail
  refine (run_any s m A c' w hm3 ht hsm).mono ?_
  rintro e w1 ⟨rfl, hb1⟩
  go_wp2_with fail
  refine (r_run_any s m A c' w1 hm3 ((hsm.below hb1).more hb1.size)).mono ?_
  rintro e w2 ⟨rfl, hb2⟩
  have hb : Below w.heap.size w w2 := hb1.trans (hb2.mono hb1.size)
  go_wp2_with fail
  refine (awake_any _ (ht.below hb ht.lt) (hn.below hb hn.lt)).mono ?_
  rintro e w3 ⟨rfl, hb3⟩
  go_wp2
  go_ret
  exact ⟨rfl, hb.trans (hb3.mono hb.size)⟩

theorem nm_toList (a : Int) : (PortLaw.nm a).toList = PortLaw.nmL a := by simp [PortLaw.nm]
theorem run_nil (a : Int) (w : World) (ht : PortTab w) : Calls Tryd.prog 20 #[.int .i64 a, .slice none 0 0] w fun e w' => e = .returned (.int .i64 (PortLaw.runK a [])) ∧ Below w.heap.size w w' :=
  run_any a [] none 0 w (by decide) ht Sl.nil
theorem portNames_yes (a b : Int) (w : World) (ht : PortTab w) (hn : NameTab w) (hka : 1 ≤ a ∧ a ≤ 9) :
    Calls Tryd.prog 8 #[.int .i64 a, .int .i64 b] w fun e w' => e = .returned (.bool true) ∧ Below w.heap.size w w' := by
  have hx : (PortLaw.nm a).toList.isEmpty = false := by rw [nm_toList]; exact PortLaw.nmL_some a hka
  have hxy : ¬ a = b → ((PortLaw.nm a).toList == (PortLaw.nm b).toList) = false := fun h => by rw [nm_toList, nm_toList]; exact PortLaw.nmL_inj a b hka h
  have hp : (PortLaw.nxt a 1 false == 1) = true := by rw [PortLaw.nxt_power a hka]; rfl
  have hr : (PortLaw.runK a [] == a) = true := by simp [PortLaw.runK, hka, PortLaw.run]
  have ha1 : 1 ≤ a := hka.1
  have ha9 : a ≤ 9 := hka.2
  clear hka
  by_cases hab : a = b
  · subst hab
    clear hxy
    by_cases h6 : a = 6
    · subst h6
      go_enter Tryd.func8, Tryd.ntmps8
      go_wp2_with (first | (go_at_call 10; refine (next_any _ _ _ _ ht).mono ?_; rintro en w' ⟨rfl, rfl⟩) | (go_at_call 16; refine (name_any _ _ hn).mono ?_; rintro en w' ⟨rfl, rfl⟩) | (go_at_call 12; refine (sends_any _ _).mono ?_; rintro en w' ⟨rfl, rfl⟩) | (go_at_call 14; refine (uses_any _ _).mono ?_; rintro en w' ⟨rfl, rfl⟩) | (go_at_call 20; refine (run_nil _ _ ht).mono ?_; rintro en w1 ⟨rfl, hb1⟩) | (go_at_call 18; refine (awake_any _ (ht.below hb1 ht.lt) (hn.below hb1 hn.lt)).mono ?_; rintro en w2 ⟨rfl, hb2⟩))
      go_ret
      exact ⟨rfl, hb1.trans (hb2.mono hb1.size)⟩
    · have h6' : (a == 6) = false := by simpa using h6
      go_enter Tryd.func8, Tryd.ntmps8
      go_wp2_with (first | (go_at_call 10; refine (next_any _ _ _ _ ht).mono ?_; rintro en w' ⟨rfl, rfl⟩) | (go_at_call 16; refine (name_any _ _ hn).mono ?_; rintro en w' ⟨rfl, rfl⟩) | (go_at_call 12; refine (sends_any _ _).mono ?_; rintro en w' ⟨rfl, rfl⟩) | (go_at_call 14; refine (uses_any _ _).mono ?_; rintro en w' ⟨rfl, rfl⟩) | (go_at_call 20; refine (run_nil _ _ ht).mono ?_; rintro en w1 ⟨rfl, hb1⟩) | (go_at_call 18; refine (awake_any _ (ht.below hb1 ht.lt) (hn.below hb1 hn.lt)).mono ?_; rintro en w2 ⟨rfl, hb2⟩))
      all_goals (go_ret; exact ⟨rfl, hb1.trans (hb2.mono hb1.size)⟩)
  · have hxy := hxy hab
    have hd : (a == b) = false := by simpa using hab
    have hd2 : (a != b) = true := by simpa using hab
    clear hab
    by_cases h6 : a = 6
    · subst h6
      go_enter Tryd.func8, Tryd.ntmps8
      go_wp2_with (first | (go_at_call 10; refine (next_any _ _ _ _ ht).mono ?_; rintro en w' ⟨rfl, rfl⟩) | (go_at_call 16; refine (name_any _ _ hn).mono ?_; rintro en w' ⟨rfl, rfl⟩) | (go_at_call 12; refine (sends_any _ _).mono ?_; rintro en w' ⟨rfl, rfl⟩) | (go_at_call 14; refine (uses_any _ _).mono ?_; rintro en w' ⟨rfl, rfl⟩) | (go_at_call 20; refine (run_nil _ _ ht).mono ?_; rintro en w1 ⟨rfl, hb1⟩) | (go_at_call 18; refine (awake_any _ (ht.below hb1 ht.lt) (hn.below hb1 hn.lt)).mono ?_; rintro en w2 ⟨rfl, hb2⟩))
      go_ret
      exact ⟨rfl, hb1.trans (hb2.mono hb1.size)⟩
    · have h6' : (a == 6) = false := by simpa using h6
      go_enter Tryd.func8, Tryd.ntmps8
      go_wp2_with (first | (go_at_call 10; refine (next_any _ _ _ _ ht).mono ?_; rintro en w' ⟨rfl, rfl⟩) | (go_at_call 16; refine (name_any _ _ hn).mono ?_; rintro en w' ⟨rfl, rfl⟩) | (go_at_call 12; refine (sends_any _ _).mono ?_; rintro en w' ⟨rfl, rfl⟩) | (go_at_call 14; refine (uses_any _ _).mono ?_; rintro en w' ⟨rfl, rfl⟩) | (go_at_call 20; refine (run_nil _ _ ht).mono ?_; rintro en w1 ⟨rfl, hb1⟩) | (go_at_call 18; refine (awake_any _ (ht.below hb1 ht.lt) (hn.below hb1 hn.lt)).mono ?_; rintro en w2 ⟨rfl, hb2⟩))
      all_goals (go_ret; exact ⟨rfl, hb1.trans (hb2.mono hb1.size)⟩)
theorem portNames_no (a b : Int) (w : World) (ht : PortTab w) (hn : NameTab w) (hka : ¬ (1 ≤ a ∧ a ≤ 9)) :
    Calls Tryd.prog 8 #[.int .i64 a, .int .i64 b] w fun e w' => e = .returned (.bool true) ∧ Below w.heap.size w w' := by
  have hx : (PortLaw.nm a).toList = [] := by rw [nm_toList]; exact PortLaw.nmL_none a hka
  have hp : PortLaw.nxt a 1 false = 0 := by simp [PortLaw.nxt, hka]
  have h6 : (a == 6) = false := by simp; omega
  have h6' : ¬ a = 6 := by omega
  have h8 : ¬ a = 8 := by omega
  have h9 : ¬ a = 9 := by omega
  have hz : decide (1 ≤ a ∧ a ≤ 9) = false := by simpa using hka
  have hrn := fun w => run_no0 a w hz
  have HR := Lib.hid hrn
  clear hrn
  rcases (by omega : a < 1 ∨ 9 < a) with h1 | h1
  all_goals
    clear hka hz
    go_enter Tryd.func8, Tryd.ntmps8
    go_wp2_with (first | (go_at_call 10; refine (next_any _ _ _ _ ht).mono ?_; rintro en w' ⟨rfl, rfl⟩) | (go_at_call 16; refine (name_any _ _ hn).mono ?_; rintro en w' ⟨rfl, rfl⟩) | (go_at_call 12; refine (sends_any _ _).mono ?_; rintro en w' ⟨rfl, rfl⟩) | (go_at_call 14; refine (uses_any _ _).mono ?_; rintro en w' ⟨rfl, rfl⟩) | (go_at_call 20; refine (HR.out _).mono ?_; rintro en w' ⟨rfl, rfl⟩) | (go_at_call 18; refine (awake_any _ ht hn).mono ?_; rintro en w2 ⟨rfl, hb2⟩))
    all_goals (go_ret; exact ⟨rfl, hb2⟩)

theorem portNames_walk (a b : Int) (w : World) (ht : PortTab w) (hn : NameTab w) :
    Calls Tryd.prog 8 #[.int .i64 a, .int .i64 b] w fun e w' => e = .returned (.bool true) ∧ Below w.heap.size w w' := by
  by_cases h : 1 ≤ a ∧ a ≤ 9
  · exact portNames_yes a b w ht hn h
  · exact portNames_no a b w ht hn h
set_option maxHeartbeats 400000 in
theorem portLeaves_walk (e : Int) (same : Bool) (w : World) (ht : PortTab w) (hn : NameTab w) :
    Calls Tryd.prog 6 #[.int .i64 e, .bool same] w fun e w' => e = .returned (.bool true) ∧ Below w.heap.size w w' := by
  by_cases hz : PortLaw.nxt 6 e same = 0
  · have hz' : (PortLaw.nxt 6 e same == 0) = true := by simp [hz]
    have hv := PortLaw.nxt6_zero e same hz
    clear hz
    by_cases h1 : 1 ≤ e <;> by_cases h2 : 10 < e <;> by_cases h3 : 20 ≤ e <;> by_cases h4 : e ≤ 26
    all_goals first | (exfalso; omega) | skip
    all_goals
      clear hv
      go_enter Tryd.func6, Tryd.ntmps6
      go_wp2_with (first | (go_at_call 10; refine (next_any _ _ _ _ ht).mono ?_; rintro en w' ⟨rfl, rfl⟩) | (go_at_call 18; refine (awake_any _ ht hn).mono ?_; rintro en w2 ⟨rfl, hb2⟩))
      all_goals (go_ret; exact ⟨rfl, hb2⟩)
  · have hz' : (PortLaw.nxt 6 e same == 0) = false := by simp [hz]
    have hf := Lib.hid (PortLaw.leaves e same hz)
    clear hz
    go_enter Tryd.func6, Tryd.ntmps6
    go_wp2_with (first | (go_at_call 10; refine (next_any _ _ _ _ ht).mono ?_; rintro en w' ⟨rfl, rfl⟩) | (go_at_call 18; refine (awake_any _ ht hn).mono ?_; rintro en w2 ⟨rfl, hb2⟩))
    all_goals (go_ret; go_light; first | exact ⟨rfl, hb2⟩ | (exfalso; have hg := hf.out; clear hf; grind))

end Go.Proofs.YtbfokncailhdoaaDoor
