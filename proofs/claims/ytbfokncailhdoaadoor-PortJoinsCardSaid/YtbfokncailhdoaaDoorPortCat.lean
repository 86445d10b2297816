/- slices.Grow of nil, and slices.Concat of two lists of events. -/
import Derived.Test.YtbfokncailhdoaaDoorPortLaws
import Derived.Lib.AppendZeros
import Derived.Deep.DeepAppendWide
import Derived.Deep.Upon
namespace Go.Proofs.YtbfokncailhdoaaDoor
set_option linter.unusedVariables false
open Go.RowKit

theorem flat_cells {w : World} {b : Nat} : ∀ (l : List (Int × Bool)) (off : Nat), (∀ (i : Nat) (x : List Value), (l.map evC)[i]? = some x → ∀ (j : Nat) (u : Value), x[j]? = some u → w.cell? ⟨b, off + i * 2 + j, none⟩ = some u) →
    ∀ (j : Nat) (u : Value), (l.map evC).flatten[j]? = some u → w.cell? ⟨b, off + j, none⟩ = some u
  | [], _, _, j, u, h => by simp at h
  | x :: l, off, hc, 0, u, h => by
    have := hc 0 (evC x) rfl 0 u h
    simpa using this
  | x :: l, off, hc, 1, u, h => by
    have := hc 0 (evC x) rfl 1 u h
    simpa using this
  | x :: l, off, hc, j + 2, u, h => by
    have := flat_cells l (off + 2) (fun i y hy k v hv => by
      have := hc (i + 1) y hy k v hv
      rw [show off + 2 + i * 2 + k = off + (i + 1) * 2 + k by omega]
      exact this) j u h
    rw [show off + (j + 2) = off + 2 + j by omega]
    exact this
theorem flat_get : ∀ (l : List (Int × Bool)) (i : Nat) (x : List Value), (l.map evC)[i]? = some x → ∀ (j : Nat) (u : Value), x[j]? = some u → (l.map evC).flatten[i * 2 + j]? = some u
  | [], i, x, h, _, _, _ => by simp at h
  | y :: l, 0, x, h, j, u, hu => by
    obtain rfl : evC y = x := by simpa using h
    match j, hu with
    | 0, hu => exact hu
    | 1, hu => exact hu
  | y :: l, i + 1, x, h, j, u, hu => by
    have := flat_get l i x h j u hu
    rw [show (i + 1) * 2 + j = i * 2 + j + 2 by omega]
    exact this
theorem flat_len : ∀ l : List (Int × Bool), (l.map evC).flatten.length = l.length * 2
  | [] => rfl
  | y :: l => by
    have := flat_len l
    simp only [List.map_cons, List.flatten_cons, List.length_append, this, List.length_cons, evC, List.length_nil]
    omega
theorem flat_one (l : List (Int × Bool)) : ∀ u ∈ (l.map evC).flatten, u.oneCell' = true := by
  intro u hu
  simp only [List.mem_flatten, List.mem_map] at hu
  obtain ⟨x, ⟨y, _, rfl⟩, h⟩ := hu
  simp only [evC, List.mem_cons, List.not_mem_nil, or_false] at h
  rcases h with rfl | rfl <;> rfl

theorem ev_info : ∃ i : TypeInfo, Tryd.prog.info? 32 = some i ∧ i.zero = some (.agg #[.int .i64 0, .bool false]) ∧ i.size = 2 ∧ i.bytes = 16 := by
  have h : (Tryd.prog.info? 32).map (fun i => (i.zero, i.size, i.bytes)) = some (some (.agg #[.int .i64 0, .bool false]), 2, 16) := by kernel_rfl
  cases hi : Tryd.prog.info? 32 with
  | none => rw [hi] at h; cases h
  | some i =>
    rw [hi] at h
    simp only [Option.map_some, Option.some.injEq, Prod.mk.injEq] at h
    exact ⟨i, rfl, h.1, h.2.1, h.2.2⟩

theorem app_any (N : Nat) (w : World) (v : Value) (n : Nat) (xs : List Value) (hown : w.ownsRow N 32 2 v n xs) (hN : N ≤ w.heap.size) (l : List (Int × Bool)) (A : Option Addr) (ca : Nat)
    (hsl : Sl w N 2 A (l.map evC)) (hn : n + l.length ≤ 600) (ty : TypeId) :
    ∃ v' w', (Builtin.append_ #[27, 27] ty #[v, .slice A l.length ca]).run Tryd.prog w = .ok v' w' ∧ w'.ownsRow N 32 2 v' (n + l.length) (xs ++ (l.map evC).flatten) ∧ Below N w w' := by
  obtain ⟨i, hi, hz, hs, hb⟩ := ev_info
  have ht : Tryd.prog.underlying 27 = some (.slice 32) := Tryd.underlying27
  have key : ∀ a : Addr, (∀ (j : Nat) (u : Value), (l.map evC).flatten[j]? = some u → w.cell? (a.add j) = some u) →
      ∃ v' w', (Builtin.append_ #[27, 27] ty #[v, .slice (some a) l.length ca]).run Tryd.prog w = .ok v' w' ∧ w'.ownsRow N 32 2 v' (n + l.length) (xs ++ (l.map evC).flatten) ∧ Below N w w' := by
    intro a ha
    obtain ⟨v', w', hr, h2, h3, _⟩ := run_append_own_wide (P := Tryd.prog) w N 27 ty 32 i _ 2 16 ht hi hz hs hb rfl (by decide) v n xs hown a l.length ca (l.map evC).flatten (flat_len l) ha (flat_one l)
      (by unfold maxLen; omega) (by omega) hN
    refine ⟨v', w', hr, h2, h3.os, h3.tape, h3.output, h3.size, fun k hk => h3.block k (by omega) (fun e => ?_)⟩
    have := hown.lt k e.symm
    omega
  cases A with
  | some a =>
    by_cases h0 : l = []
    · subst h0
      exact key a (by simp)
    · obtain ⟨b, off, e, _, hc⟩ := hsl (by simpa using List.length_pos_iff.2 h0)
      cases e
      exact key _ (fun j u hj => by rw [Addr.add_lit]; exact flat_cells l off hc j u hj)
  | none =>
    have h0 : l = [] := by
      by_cases h0 : l = []
      · exact h0
      · obtain ⟨_, _, e, _⟩ := hsl (by simpa using List.length_pos_iff.2 h0)
        cases e
    subst h0
    refine ⟨v, w, ?_, by simpa using hown, Below.refl _ _⟩
    rcases hown.2 with ⟨rfl, rfl⟩ | ⟨g, cap, cur, rfl, _, _, hnc, _⟩
    · exact run_append_nothing w _ _ ty _ i ht hi none 0 0 (Nat.le_refl _) _ (Src.ofNil w ht ca)
    · exact run_append_nothing w _ _ ty _ i ht hi _ n cap hnc _ (Src.ofNil w ht ca)

theorem row_sl {N : Nat} {w : World} {v : Value} {l : List (Int × Bool)} (h : w.ownsRow N 32 2 v l.length (l.map evC).flatten) : ∃ C cc, v = .slice C l.length cc ∧ Sl w w.heap.size 2 C (l.map evC) := by
  rcases h.2 with ⟨rfl, h0⟩ | ⟨g, cap, cur, rfl, hg, hblk, _, _, _, ht⟩
  · obtain rfl : l = [] := List.length_eq_zero_iff.1 h0
    exact ⟨none, 0, rfl, Sl.nil⟩
  · refine ⟨some ⟨g, 0, none⟩, cap, rfl, fun _ => ⟨g, 0, rfl, (h.lt g rfl).2, fun i x hx j u hu => ?_⟩⟩
    have := h.cells (g := g) rfl (i * 2 + j) u (flat_get l i x hx j u hu)
    rw [Addr.add_lit] at this
    rw [show 0 + i * 2 + j = 0 + (i * 2 + j) by omega]
    exact this
end Go.Proofs.YtbfokncailhdoaaDoor
