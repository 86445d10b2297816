/- The walks of slices.Grow (of nil) and slices.Concat (of two lists of events). -/
import Derived.Test.YtbfokncailhdoaaDoorPortCat
namespace Go.Proofs.YtbfokncailhdoaaDoor
set_option linter.unusedVariables false
open Go.RowKit

theorem grow_nil (n : Nat) (w : World) (hn : n ≤ 600) : Calls Tryd.prog 28 #[.slice none 0 0, .int .i64 n] w fun e w' =>
    ∃ v, e = .returned v ∧ w'.ownsRow w.heap.size 32 2 v 0 [] ∧ Below w.heap.size w w' := by
  have h1 : ¬ ((n : Int) < 0) := by omega
  have h3 : wrap64 ((n : Int) - 0) = (n : Int) := by unfold wrap64; omega
  have h3' : wrap64 (n : Int) = (n : Int) := by unfold wrap64; omega
  by_cases h0 : n = 0
  · subst h0
    clear h1 h3 h3' hn
    go_enter Tryd.func28, Tryd.ntmps28
    go_wp2
    go_ret
    exact ⟨_, rfl, World.ownsRow_nil _ _ _ _, Below.refl _ _⟩
  · have h4 : (0 : Int) < (n : Int) := by omega
    obtain ⟨i, hi, hz, hs, hb⟩ := ev_info
    have hrz : ∀ ty, (Builtin.append_ #[27, 3] ty #[.slice none 0 0, .int .i64 n]).run Tryd.prog w = _ := fun ty =>
      Lib.run_append_nil_zeros (P := Tryd.prog) w 27 3 ty 32 i _ .i64 .i64 Tryd.underlying27 Tryd.underlying3 hi hz n (by omega) (by omega) (by omega) (by rw [hb]; omega)
    have hG := grownCap_ge w n 0 32
    have hG2 := grownCap_le_maxLen w n 0 32 (by unfold maxLen; omega)
    obtain ⟨G, hGe⟩ : ∃ G, G = grownCap w n 0 32 := ⟨_, rfl⟩
    rw [← hGe] at hG hG2
    simp only [← hGe] at hrz
    have hmade := World.ownsRow_made (base := w.heap.size) (e := 32) (size := 2) w.drew (Builtin.zeroCells (Value.cells (Value.agg #[.int .i64 0, .bool false])) n ++ Builtin.zeroCells (Value.cells (Value.agg #[.int .i64 0, .bool false])) (G - n)) G (Nat.le_refl _) hG2 (by simp [size_zeroCells, show (Value.cells (Value.agg #[.int .i64 0, .bool false])).size = 2 from rfl]; omega)
    have hbel : Below w.heap.size w (w.drew.alloc (.cells (Builtin.zeroCells (Value.cells (Value.agg #[.int .i64 0, .bool false])) n ++ Builtin.zeroCells (Value.cells (Value.agg #[.int .i64 0, .bool false])) (G - n)) 32)) := (Below.refl _ _).drew.alloc (Nat.le_refl _) _
    have hG63 : G ≤ 9223372036854775807 := by unfold maxLen at hG2; omega
    have HM := Lib.hid (And.intro hmade hbel)
    clear hmade hbel hGe hG2 hi hz hs hb h0 hn
    go_enter Tryd.func28, Tryd.ntmps28
    go_wp2_with (at_builtin; refine Lib.wpList_append_run _ rfl _ _ _ _ rfl _ _ rfl rfl _ _ (hrz _) ?_)
    all_goals (go_ret; exact ⟨_, rfl, HM.out.1, HM.out.2⟩)

theorem cat_any (l m : List (Int × Bool)) (A B : Option Addr) (ca cb sb : Nat) (w : World) (hl : l.length ≤ 300) (hm : m.length ≤ 300)
    (h0 : w.cell? ⟨sb, 0, none⟩ = some (.slice A l.length ca)) (h1 : w.cell? ⟨sb, 1, none⟩ = some (.slice B m.length cb)) (hsb : sb < w.heap.size)
    (hsl : Sl w w.heap.size 2 A (l.map evC)) (hsm : Sl w w.heap.size 2 B (m.map evC)) :
    Calls Tryd.prog 22 #[.slice (some ⟨sb, 0, none⟩) 2 2] w fun e w' =>
      ∃ C cc, e = .returned (.slice C (l ++ m).length cc) ∧ Sl w' w'.heap.size 2 C ((l ++ m).map evC) ∧ Below w.heap.size w w' := by
  have q1 : wrap64 (0 + (l.length : Int)) = (l.length : Int) := by unfold wrap64; omega
  have q1' : wrap64 (l.length : Int) = (l.length : Int) := by unfold wrap64; omega
  have q2 : wrap64 ((l.length : Int) + (m.length : Int)) = ((l.length + m.length : Nat) : Int) := by unfold wrap64; omega
  have q3 : ¬ ((l.length : Int) < 0) := by omega
  have q4 : ¬ (((l.length + m.length : Nat) : Int) < 0) := by omega
  go_enter Tryd.func22, Tryd.ntmps22
  go_wp2_with fail
  go_loopw [3, 11] (fun v i wr => ((i = .int .i64 0 ∧ v = .int .i64 0) ∨ (i = .int .i64 1 ∧ v = .int .i64 l.length) ∨ (i = .int .i64 2 ∧ v = .int .i64 ((l.length + m.length : Nat) : Int))) ∧ wr = w) (fun _ i _ => 2 - (intOf i).toNat)
  case atStart => exact ⟨.inl ⟨rfl, rfl⟩, rfl⟩
  case round =>
    obtain ⟨⟨rfl, rfl⟩ | ⟨rfl, rfl⟩ | ⟨rfl, rfl⟩, rfl⟩ := hrel
    · go_wp2_with fail
      go_roundw
      case rel => exact ⟨.inr (.inl ⟨by go_num, by go_num⟩), by trivial⟩
      case measure => simp [intOf]
    · go_wp2_with fail
      go_roundw
      case rel => exact ⟨.inr (.inr ⟨by go_num, by go_num⟩), by trivial⟩
      case measure => simp [intOf]
    · go_wp2_with fail
      obtain ⟨w0, rfl⟩ : ∃ w0, w0 = wr := ⟨_, rfl⟩
      have hgrow := grow_nil (l.length + m.length) w0 (by omega)
      rw [Int.natCast_add] at hgrow
      refine hgrow.mono ?_
      rintro e w1 ⟨v, rfl, hown, hb⟩
      clear hgrow
      go_wp2_with fail
      go_loopw [6, 27] (fun v i wr2 => ((i = .int .i64 0 ∧ wr2.ownsRow w0.heap.size 32 2 v 0 []) ∨ (i = .int .i64 1 ∧ wr2.ownsRow w0.heap.size 32 2 v l.length (l.map evC).flatten) ∨
        (i = .int .i64 2 ∧ wr2.ownsRow w0.heap.size 32 2 v (l.length + m.length) ((l.map evC).flatten ++ (m.map evC).flatten))) ∧ Below w0.heap.size w0 wr2) (fun _ i _ => 2 - (intOf i).toNat)
      case atStart => exact ⟨.inl ⟨rfl, hown⟩, hb⟩
      case round =>
        clear hown hb
        obtain ⟨⟨rfl, hown⟩ | ⟨rfl, hown⟩ | ⟨rfl, hown⟩, hb⟩ := hrel
        · obtain ⟨v', w', hr, ho, hb'⟩ := app_any w0.heap.size _ _ 0 [] hown hb.size l A ca (hsl.below hb) (by omega) 27
          rw [Nat.zero_add, List.nil_append] at ho
          have g0 := (hb.cell (p := ⟨sb, 0, none⟩) hsb).trans h0
          have HO := Lib.hid (And.intro ho (hb.trans hb'))
          clear ho hb hb' hown hsl hsm h0 h1
          go_wp2_with (at_builtin; refine Lib.wpList_append_run _ rfl _ _ _ _ rfl _ _ rfl rfl _ _ hr ?_)
          go_roundw
          case rel => exact ⟨.inr (.inl ⟨by go_num, HO.out.1⟩), HO.out.2⟩
          case measure => simp [intOf]
        · obtain ⟨v', w', hr, ho, hb'⟩ := app_any w0.heap.size _ _ l.length _ hown hb.size m B cb (hsm.below hb) (by omega) 27
          have g1 := (hb.cell (p := ⟨sb, 1, none⟩) hsb).trans h1
          have HO := Lib.hid (And.intro ho (hb.trans hb'))
          clear ho hb hb' hown hsl hsm h0 h1
          go_wp2_with (at_builtin; refine Lib.wpList_append_run _ rfl _ _ _ _ rfl _ _ rfl rfl _ _ hr ?_)
          go_roundw
          case rel => exact ⟨.inr (.inr ⟨by go_num, HO.out.1⟩), HO.out.2⟩
          case measure => simp [intOf]
        · rw [← List.flatten_append, ← List.map_append, ← List.length_append] at hown
          obtain ⟨C, cc, rfl, hs⟩ := row_sl hown
          clear hown hsl hsm h0 h1
          go_wp2_with fail
          go_ret
          exact ⟨C, cc, rfl, hs, hb⟩
end Go.Proofs.YtbfokncailhdoaaDoor
