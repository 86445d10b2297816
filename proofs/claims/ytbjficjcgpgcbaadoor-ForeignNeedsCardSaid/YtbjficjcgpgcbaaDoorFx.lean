/- Layer 35: rules of the best one. -/
import Derived.Test.YtbjficjcgpgcbaaDoorFw
namespace Go.Proofs.YtbjficjcgpgcbaaDoor
open Go Go.RowKit SX Frm Frn
set_option linter.unusedVariables false
set_option linter.unusedSimpArgs false

theorem ifc {α : Type} {a b : α} {p q : Prop} {_ : Decidable p} {_ : Decidable q} (h : p ↔ q) : (if p then a else b) = if q then a else b := by
  by_cases c : p
  · rw [if_pos c, if_pos (h.1 c)]
  · rw [if_neg c, if_neg fun hq => c (h.2 hq)]
theorem ite_ne {p : Prop} {_ : Decidable p} : (if p then (1 : Int) else 0) ≠ 0 ↔ p := by
  by_cases c : p
  · rw [if_pos c]; exact ⟨fun _ => c, fun _ => by decide⟩
  · rw [if_neg c]; exact ⟨fun h => absurd rfl h, fun h => absurd h c⟩
theorem bestI_spec {less : Nat → Nat → Bool} (ht : ∀ a b c, less a b = true → less b c = true → less a c = true) (hi : ∀ a, less a a = false) : ∀ (l : List Nat) (b : Nat) (P : Nat → Prop), (∀ i, P i → less i b = false) → (∀ i, P i ∨ i ∈ l → less i (bestI less b l) = false) ∧ (bestI less b l = b ∨ bestI less b l ∈ l)
  | [], b, P, h => ⟨fun i hi => hi.elim (h i) (fun h => absurd h List.not_mem_nil), .inl rfl⟩
  | i :: l, b, P, h => by
    unfold bestI
    by_cases c : less i b = true
    · rw [if_pos c]
      obtain ⟨h1, h2⟩ := bestI_spec ht hi l i (fun j => P j ∨ j = i) (fun j hj => by
        rcases hj with hj | rfl
        · by_cases c2 : less j i = true
          · have := ht _ _ _ c2 c
            rw [h j hj] at this
            cases this
          · simpa using c2
        · exact hi _)
      refine ⟨fun j hj => h1 j ?_, ?_⟩
      · rcases hj with hj | hj
        · exact .inl (.inl hj)
        · rcases List.mem_cons.1 hj with rfl | hj
          · exact .inl (.inr rfl)
          · exact .inr hj
      · rcases h2 with h2 | h2
        · exact .inr (by rw [h2]; exact List.mem_cons_self ..)
        · exact .inr (List.mem_cons_of_mem _ h2)
    · rw [if_neg c]
      obtain ⟨h1, h2⟩ := bestI_spec ht hi l b (fun j => P j ∨ j = i) (fun j hj => by
        rcases hj with hj | rfl
        · exact h j hj
        · simpa using c)
      refine ⟨fun j hj => h1 j ?_, ?_⟩
      · rcases hj with hj | hj
        · exact .inl (.inl hj)
        · rcases List.mem_cons.1 hj with rfl | hj
          · exact .inl (.inr rfl)
          · exact .inr hj
      · rcases h2 with h2 | h2
        · exact .inl h2
        · exact .inr (List.mem_cons_of_mem _ h2)
theorem best_law {q : List (List Int)} (h : q ≠ []) : bestD q ∈ q ∧ ∀ i, i < q.length → ltB (q.getD i []) (bestD q) = false := by
  have hl : 0 < q.length := List.length_pos_iff.2 h
  obtain ⟨h1, h2⟩ := bestI_spec (less := fun i b => ltB (q.getD i []) (q.getD b [])) (fun a b c h1 h2 => by
    simp only [ltB, decide_eq_true_eq] at *
    exact DsLaw.lt_trans h1 h2) (fun a => by
    simp only [ltB, decide_eq_false_iff_not]
    exact DsLaw.lt_irrefl _) (List.range' 1 (q.length - 1)) 0 (fun i => i = 0) (fun i hi => by
    subst hi
    simp only [ltB, decide_eq_false_iff_not]
    exact DsLaw.lt_irrefl _)
  have hk : bestK q < q.length := by
    rcases h2 with h2 | h2
    · show bestI _ 0 _ < _
      rw [h2]; exact hl
    · have := List.mem_range'_1.1 h2
      show bestI _ 0 _ < _
      omega
  unfold bestD
  rw [if_neg h]
  refine ⟨?_, fun i hi => h1 i ?_⟩
  · rw [List.getD_eq_getElem?_getD, List.getElem?_eq_getElem hk]
    exact List.getElem_mem hk
  · by_cases c : i = 0
    · exact .inl c
    · exact .inr (List.mem_range'_1.2 (by omega))
def bstS (x t : E) : List E := (List.range 11).map fun j => bstE x t j
def qfS (x t : E) (i : Nat) : List E := (List.range 11).map fun j => qfE x t i j
def fnd (x t : E) (i : Nat) : E := fndE x t i (bstS x t)
def knd (j : Nat) : IntKind := if j = 5 ∨ j = 7 ∨ j = 9 then .u64 else .i64
def qnIs (x t : E) (m : Nat) : E × Bool := (eq0 (qnE x t) (.lit (Int.ofNat m)), true)
def fndIs (x t : E) (i : Nat) (b : Nat) : E × Bool := (eq0 (fnd x t i) (.lit (Int.ofNat b)), true)
def bestR0 (x t : E) (m : Nat) : Rule := ⟨[(one1 (goodE x), true), qnIs x t m], (eq0 (bokE x t) (.lit (if m = 0 then 0 else 1)), true) :: fndIs x t m (if m = 0 then 0 else 1) :: (List.range m).map fun i => (eq0 (lessE (qfS x t i) (bstS x t)) (.lit 0), true)⟩
def zeroR (x t : E) : Rule := ⟨[qnIs x t 0], (List.range 11).map fun j => (eq0 (bstE x t j) (.lit 0), true)⟩
def startR (x t : E) : Rule := ⟨[], [fndIs x t 0 0]⟩
def eqs (x t : E) (i : Nat) : Nat → Nat → E
  | 0, j => .bin .eq (knd j) (qfE x t i j) (bstE x t j)
  | n + 1, j => .bin .band .i64 (.bin .eq (knd j) (qfE x t i j) (bstE x t j)) (eqs x t i n (j + 1))
def stepR (x t : E) (m i : Nat) : List Rule := [⟨[(fnd x t i, true)], [fndIs x t (i + 1) 1]⟩, ⟨[(one1 (goodE x), true), qnIs x t m, (fnd x t i, false)], [(eq0 (fnd x t (i + 1)) (eqs x t i 10 0), true)]⟩]
section
variable {ρ : Env}
theorem evs_map {α : Type} (f : α → E) : ∀ l : List α, E.evs ρ (l.map f) = l.map fun a => (f a).ev ρ
  | [] => rfl
  | a :: l => by
    show (f a).ev ρ :: E.evs ρ (l.map f) = _
    rw [evs_map f l]; rfl
theorem qual_len {s : FS} (hs : RsOk s) (t : Int) {d : List Int} (h : d ∈ qual s t) : d.length = 11 := fits_len (qual_fits hs t d h)
theorem qnIs_ev (hf : ρ.fn = FN) (x t : E) (m : Nat) : (qnIs x t m).1.ev ρ ≠ 0 ↔ (qual (dec (x.ev ρ)) (t.ev ρ)).length = m := by
  unfold qnIs eq0
  rw [eqk_ev, qnE_ev hf]
  show ((qual (dec (x.ev ρ)) (t.ev ρ)).length : Int) = (m : Int) ↔ _
  omega
theorem bst_evs (hf : ρ.fn = FN) {x t : E} (hs : RsOk (dec (x.ev ρ))) (h : qual (dec (x.ev ρ)) (t.ev ρ) ≠ []) : E.evs ρ (bstS x t) = bestD (qual (dec (x.ev ρ)) (t.ev ρ)) := by
  unfold bstS
  rw [evs_map]
  simp only [bstE_ev hf]
  exact range11_self (qual_len hs _ (best_law h).1)
theorem qf_evs (hf : ρ.fn = FN) {x t : E} (hs : RsOk (dec (x.ev ρ))) {i : Nat} (h : i < (qual (dec (x.ev ρ)) (t.ev ρ)).length) : E.evs ρ (qfS x t i) = (qual (dec (x.ev ρ)) (t.ev ρ)).getD i [] := by
  unfold qfS
  rw [evs_map]
  simp only [qfE_ev hf]
  refine range11_self (qual_len hs (t.ev ρ) ?_)
  rw [List.getD_eq_getElem?_getD, List.getElem?_eq_getElem h]
  exact List.getElem_mem h
theorem fnd_ev (hf : ρ.fn = FN) (x t : E) (i : Nat) : (fnd x t i).ev ρ = if E.evs ρ (bstS x t) ∈ (qual (dec (x.ev ρ)) (t.ev ρ)).take i then 1 else 0 := fndE_ev hf x t i _
theorem startR_ok (hf : ρ.fn = FN) (x t : E) : RuleOk ρ (startR x t) := fun _ => by
  show SX.FsOk ρ [(eq0 _ _, true)]
  rw [fsOk_one, tru]
  unfold eq0
  rw [eqk_ev, fnd_ev hf]
  simp
  rfl
open Classical in
theorem eqs_ev (hf : ρ.fn = FN) (x t : E) (i : Nat) : ∀ n j, (eqs x t i n j).ev ρ = if ∀ k, j ≤ k → k ≤ j + n → ((qual (dec (x.ev ρ)) (t.ev ρ)).getD i []).getD k 0 = (bestD (qual (dec (x.ev ρ)) (t.ev ρ))).getD k 0 then 1 else 0
  | 0, j => by
    show (if (qfE x t i j).ev ρ = (bstE x t j).ev ρ then (1 : Int) else 0) = _
    rw [qfE_ev hf, bstE_ev hf]
    refine ifc ⟨fun h k h1 h2 => ?_, fun h => h j (Nat.le_refl _) (Nat.le_refl _)⟩
    obtain rfl : k = j := by omega
    exact h
  | n + 1, j => by
    show (if (if (qfE x t i j).ev ρ = (bstE x t j).ev ρ then (1 : Int) else 0) ≠ 0 ∧ (eqs x t i n (j + 1)).ev ρ ≠ 0 then (1 : Int) else 0) = _
    rw [qfE_ev hf, bstE_ev hf, eqs_ev hf x t i n (j + 1)]
    refine ifc ⟨fun h k h1 h2 => ?_, fun h => ⟨?_, ?_⟩⟩
    · obtain ⟨a, b⟩ := h
      have a := ite_ne.1 a
      by_cases c : k = j
      · subst c; exact a
      · exact ite_ne.1 b k (by omega) (by omega)
    · rw [if_pos (h j (Nat.le_refl _) (by omega))]; decide
    · rw [if_pos (fun k h1 h2 => h k (by omega) (by omega))]; decide
theorem zeroR_ok (hf : ρ.fn = FN) (x t : E) : RuleOk ρ (zeroR x t) := fun hp => by
  have hp : SX.FsOk ρ [((qnIs x t 0).1, true)] := hp
  rw [fsOk_one, tru, qnIs_ev hf] at hp
  intro p hq
  obtain ⟨j, _, rfl⟩ := List.mem_map.1 hq
  show (eq0 (bstE x t j) (.lit 0)).ev ρ ≠ 0 ↔ true = true
  rw [tru]
  unfold eq0
  rw [eqk_ev, bstE_ev hf, List.length_eq_zero_iff.1 hp]
  rfl
theorem stepR_ok (hf : ρ.fn = FN) {x t : E} {m i : Nat} (hi : i < m) : ∀ q ∈ stepR x t m i, RuleOk ρ q := by
  intro q hq
  simp only [stepR, List.mem_cons, List.not_mem_nil, or_false] at hq
  rcases hq with rfl | rfl
  · intro hp
    have hp : SX.FsOk ρ [(fnd x t i, true)] := hp
    rw [fsOk_one, tru, fnd_ev hf] at hp
    show SX.FsOk ρ [(eq0 _ _, true)]
    rw [fsOk_one, tru]
    unfold eq0
    rw [eqk_ev, fnd_ev hf, if_pos]
    · rfl
    · by_cases c : E.evs ρ (bstS x t) ∈ (qual (dec (x.ev ρ)) (t.ev ρ)).take i
      · exact List.take_subset_take_left _ (Nat.le_succ i) c
      · rw [if_neg c] at hp
        exact absurd rfl hp
  · intro hp
    have hp : SX.FsOk ρ [(one1 (goodE x), true), ((qnIs x t m).1, true), (fnd x t i, false)] := hp
    simp only [fsOk_cons, fsOk_nil, iff_true, Bool.false_eq_true, iff_false, and_true, good_ev hf, qnIs_ev hf] at hp
    obtain ⟨hs, hm, h0⟩ := hp
    have hil : i < (qual (dec (x.ev ρ)) (t.ev ρ)).length := by omega
    have hne : qual (dec (x.ev ρ)) (t.ev ρ) ≠ [] := fun h => by rw [h] at hil; cases hil
    have hb := bst_evs hf (t := t) hs hne
    rw [fnd_ev hf, hb] at h0
    have h0 : ¬ bestD (qual (dec (x.ev ρ)) (t.ev ρ)) ∈ (qual (dec (x.ev ρ)) (t.ev ρ)).take i := fun h => h0 (by rw [if_pos h]; decide)
    show SX.FsOk ρ [(eq0 _ _, true)]
    rw [fsOk_one, tru]
    unfold eq0
    rw [eqk_ev, fnd_ev hf, hb, eqs_ev hf]
    have hq : (qual (dec (x.ev ρ)) (t.ev ρ)).getD i [] = (qual (dec (x.ev ρ)) (t.ev ρ))[i] := by rw [List.getD_eq_getElem?_getD, List.getElem?_eq_getElem hil]; rfl
    have l1 := qual_len hs (t.ev ρ) (best_law hne).1
    have l2 := qual_len hs (t.ev ρ) (List.getElem_mem hil)
    refine ifc ?_
    rw [List.take_succ_eq_append_getElem hil, List.mem_append, List.mem_singleton, hq]
    refine ⟨fun h => ?_, fun h => .inr ?_⟩
    · rcases h with h | h
      · exact absurd h h0
      · intro k _ _; rw [h]
    · rw [← range11_self l1, ← range11_self l2]
      refine List.map_congr_left fun k hk => (h k (Nat.zero_le _) ?_).symm
      have := List.mem_range.1 hk
      omega
theorem bestR0_ok (hf : ρ.fn = FN) (x t : E) (m : Nat) : RuleOk ρ (bestR0 x t m) := fun hp => by
  have hp : SX.FsOk ρ [(one1 (goodE x), true), ((qnIs x t m).1, true)] := hp
  simp only [fsOk_cons, fsOk_nil, iff_true, and_true, good_ev hf, qnIs_ev hf] at hp
  obtain ⟨hs, hm⟩ := hp
  have key : ∀ p ∈ ((eq0 (bokE x t) (.lit (if m = 0 then 0 else 1)), true) :: fndIs x t m (if m = 0 then 0 else 1) :: (List.range m).map fun i => (eq0 (lessE (qfS x t i) (bstS x t)) (.lit 0), true)), (p.1.ev ρ ≠ 0 ↔ p.2 = true) := by
    intro p hp
    rcases List.mem_cons.1 hp with rfl | hp
    · show (eq0 _ _).ev ρ ≠ 0 ↔ true = true
      rw [tru]
      unfold eq0
      rw [eqk_ev, lit_ev]
      show ρ.fn 49 0 [x.ev ρ, t.ev ρ] = _
      rw [hf]
      show (if qual (dec (x.ev ρ)) (t.ev ρ) = [] then (0 : Int) else 1) = _
      refine ifc ?_
      rw [← hm, List.length_eq_zero_iff]
    · rcases List.mem_cons.1 hp with rfl | hp
      · show (eq0 _ _).ev ρ ≠ 0 ↔ true = true
        rw [tru]
        unfold eq0
        rw [eqk_ev, fnd_ev hf, lit_ev]
        by_cases c : m = 0
        · subst c
          simp
        · have hne : qual (dec (x.ev ρ)) (t.ev ρ) ≠ [] := fun h => by rw [h] at hm; exact c hm.symm
          rw [bst_evs hf hs hne, List.take_of_length_le (by omega), if_pos (best_law hne).1, if_neg c]
          rfl
      · obtain ⟨i, hi, rfl⟩ := List.mem_map.1 hp
        have hi : i < (qual (dec (x.ev ρ)) (t.ev ρ)).length := by rw [hm]; exact List.mem_range.1 hi
        have hne : qual (dec (x.ev ρ)) (t.ev ρ) ≠ [] := fun h => by rw [h] at hi; cases hi
        show (eq0 _ _).ev ρ ≠ 0 ↔ true = true
        rw [tru]
        unfold eq0
        rw [eqk_ev, lit_ev]
        have hl := lessE_ev hf (a := qfS x t i) (b := bstS x t) (by simp [qfS]) (by simp [bstS])
        rw [qf_evs hf hs hi, bst_evs hf hs hne, (best_law hne).2 i hi] at hl
        by_cases c : (lessE (qfS x t i) (bstS x t)).ev ρ = 0
        · exact c
        · cases hl.1 c
  exact key
end
end Go.Proofs.YtbjficjcgpgcbaaDoor
