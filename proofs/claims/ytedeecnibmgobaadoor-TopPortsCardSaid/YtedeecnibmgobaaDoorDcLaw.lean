/- The plain law of package decide: the least set of ports, the code of a port, and what follows. No program in sight. -/
import Derived.Test.YtedeecnibmgobaaDoorDsP
set_option linter.unusedVariables false
namespace Go.Proofs.YtedeecnibmgobaaDoor
namespace DcLaw
open DsLaw (lt lt_irrefl lt_trans lt_asymm lt_total not_lt_trans)

/-- The first of the first k ports with the least set, -1 if none of them has a set. -/
def least (has : Nat → Bool) (set : Nat → DS) : Nat → Int
  | 0 => -1
  | k + 1 => if has k = true ∧ (least has set k < 0 ∨ lt (set k) (set (least has set k).toNat)) then (k : Int) else least has set k
/-- A set as it is taken further. -/
def further (b own : DS) (num : Int) (heard : DS) : DS := ⟨b.p1, b.cls, b.acc, b.vr, b.p2, b.gm, if b.steps < 4611686018427387904 then b.steps + 1 else b.steps, own.snd, num, heard.rcv, num⟩
/-- The code of port i of n. -/
def code (own : DS) (has : Nat → Bool) (set : Nat → DS) (n i : Nat) : Int :=
  if own.cls ≤ 127 then (if has i = false ∨ lt own (set i) then 1 else 4)
  else if least has set n < 0 ∨ lt own (set (least has set n).toNat) then 2
  else if (i : Int) = least has set n then 6
  else if has i = false ∨ lt (further (set (least has set n).toNat) own (i + 1) (set i)) (set i) then 3
  else 5
/-- Has one of the first k ports a set that is less than the clock's own? -/
def better (own : DS) (has : Nat → Bool) (set : Nat → DS) : Nat → Bool
  | 0 => false
  | k + 1 => better own has set k || (has k && decide (lt (set k) own))
/-- Has one of them a set than which the clock's own is not less? -/
def equal (own : DS) (has : Nat → Bool) (set : Nat → DS) : Nat → Bool
  | 0 => false
  | k + 1 => equal own has set k || (has k && !decide (lt own (set k)))
section
variable {has : Nat → Bool} {set : Nat → DS} {own : DS} {n : Nat}
theorem better_iff : ∀ {k : Nat}, better own has set k = true ↔ ∃ j, j < k ∧ has j = true ∧ lt (set j) own
  | 0 => ⟨fun h => Bool.noConfusion h, fun ⟨j, h, _⟩ => absurd h (Nat.not_lt_zero j)⟩
  | k + 1 => by
    simp only [better, Bool.or_eq_true, Bool.and_eq_true, decide_eq_true_eq, better_iff (k := k)]
    constructor
    · rintro (⟨j, h1, h2⟩ | h)
      · exact ⟨j, by omega, h2⟩
      · exact ⟨k, by omega, h⟩
    · rintro ⟨j, h1, h2⟩
      by_cases h : j = k
      · subst h; exact .inr h2
      · exact .inl ⟨j, by omega, h2⟩
theorem equal_iff : ∀ {k : Nat}, equal own has set k = true ↔ ∃ j, j < k ∧ has j = true ∧ ¬ lt own (set j)
  | 0 => ⟨fun h => Bool.noConfusion h, fun ⟨j, h, _⟩ => absurd h (Nat.not_lt_zero j)⟩
  | k + 1 => by
    simp only [equal, Bool.or_eq_true, Bool.and_eq_true, Bool.not_eq_true', decide_eq_false_iff_not, equal_iff (k := k)]
    constructor
    · rintro (⟨j, h1, h2⟩ | h)
      · exact ⟨j, by omega, h2⟩
      · exact ⟨k, by omega, h⟩
    · rintro ⟨j, h1, h2⟩
      by_cases h : j = k
      · subst h; exact .inr h2
      · exact .inl ⟨j, by omega, h2⟩
theorem least_rng : ∀ k : Nat, -1 ≤ least has set k ∧ least has set k < k
  | 0 => by simp [least]
  | k + 1 => by
    have := least_rng k
    unfold least
    split <;> omega
theorem least_none : ∀ {k : Nat}, least has set k < 0 → ∀ j, j < k → has j = false
  | 0, _, j, h => by omega
  | k + 1, h, j, hj => by
    unfold least at h
    split at h
    · omega
    · rename_i hc
      have ih := least_none h
      by_cases he : j = k
      · subst he
        cases hh : has j with
        | false => rfl
        | true => exact absurd ⟨hh, .inl h⟩ hc
      · exact ih j (by omega)
theorem least_spec : ∀ {k : Nat}, 0 ≤ least has set k → has (least has set k).toNat = true ∧ ∀ j, j < k → has j = true → ¬ lt (set j) (set (least has set k).toNat)
  | 0, h => by simp [least] at h
  | k + 1, h => by
    by_cases hc : has k = true ∧ (least has set k < 0 ∨ lt (set k) (set (least has set k).toNat))
    · have e : least has set (k + 1) = k := by show (if _ then _ else _) = _; rw [if_pos hc]
      rw [e, Int.toNat_natCast]
      refine ⟨hc.1, fun j hj hh => ?_⟩
      by_cases he : j = k
      · subst he; exact lt_irrefl _
      · rcases hc.2 with h1 | h1
        · rw [least_none (has := has) (set := set) h1 j (by omega)] at hh; cases hh
        · by_cases h0 : 0 ≤ least has set k
          · have h2 := (least_spec h0).2 j (by omega) hh
            exact fun h3 => h2 (lt_trans h3 h1)
          · rw [least_none (has := has) (set := set) (k := k) (by omega) j (by omega)] at hh; cases hh
    · have e : least has set (k + 1) = least has set k := by show (if _ then _ else _) = _; rw [if_neg hc]
      rw [e] at h ⊢
      have ih := least_spec h
      refine ⟨ih.1, fun j hj hh => ?_⟩
      by_cases he : j = k
      · subst he
        exact fun h3 => hc ⟨hh, .inr h3⟩
      · exact ih.2 j (by omega) hh
theorem code_rng (i : Nat) : 1 ≤ code own has set n i ∧ code own has set n i ≤ 6 := by
  unfold code
  repeat' split
  all_goals omega
theorem code_six {i : Nat} (h : code own has set n i = 6) : 127 < own.cls ∧ (i : Int) = least has set n ∧ ¬ lt own (set i) := by
  unfold code at h
  split at h
  · split at h <;> omega
  · split at h
    · omega
    · rename_i h1 h2
      split at h
      · rename_i h3
        refine ⟨by omega, h3, fun h4 => h2 (.inr ?_)⟩
        rw [← h3, Int.toNat_natCast]; exact h4
      · split at h <;> omega
theorem code_of_six {i : Nat} (hc : 127 < own.cls) (hi : (i : Int) = least has set n) (hl : ¬ lt own (set i)) : code own has set n i = 6 := by
  unfold code
  rw [if_neg (by omega), if_neg, if_pos hi]
  rintro (h | h)
  · omega
  · rw [← hi, Int.toNat_natCast] at h; exact hl h
theorem code_low {i : Nat} (hc : own.cls ≤ 127) : code own has set n i = 1 ∨ code own has set n i = 4 := by
  unfold code
  rw [if_pos hc]
  split
  · exact .inl rfl
  · exact .inr rfl
theorem code_no {i : Nat} (hh : has i = false) (hi : i < n) : code own has set n i = 1 ∨ code own has set n i = 2 ∨ code own has set n i = 3 := by
  unfold code
  split
  · rw [if_pos (.inl hh)]; exact .inl rfl
  · split
    · exact .inr (.inl rfl)
    · split
      · rename_i h1 h2 h3
        have := (least_spec (has := has) (set := set) (k := n) (by omega)).1
        rw [← h3, Int.toNat_natCast, hh] at this
        cases this
      · rw [if_pos (.inl hh)]; exact .inr (.inr rfl)
/-- No other port's set, nor the clock's own, is less than a slave's. -/
theorem six_least {i j : Nat} (h : code own has set n i = 6) (hi : i < n) (hj : j < n) : has i = true ∧ (has j = true → ¬ lt (set j) (set i)) ∧ ¬ lt own (set i) ∧ (j ≠ i → code own has set n j ≠ 6) := by
  obtain ⟨h1, h2, h3⟩ := code_six h
  have h4 := least_spec (has := has) (set := set) (k := n) (by omega)
  rw [← h2, Int.toNat_natCast] at h4
  exact ⟨h4.1, h4.2 j hj, h3, fun hne h5 => hne (by have := (code_six h5).2.1; omega)⟩
/-- A clock that hears a better one has a slave port. -/
theorem six_ex (hc : 127 < own.cls) {b : Nat} (hb : b < n) (hh : has b = true) (hl : ¬ lt own (set b)) : ∃ i, i < n ∧ code own has set n i = 6 := by
  have hr := least_rng (has := has) (set := set) n
  have h0 : 0 ≤ least has set n := by
    by_cases h : 0 ≤ least has set n
    · exact h
    · rw [least_none (has := has) (set := set) (k := n) (by omega) b hb] at hh; cases hh
  have h4 := least_spec h0
  refine ⟨(least has set n).toNat, by omega, code_of_six hc (by omega) fun h5 => ?_⟩
  have h6 := h4.2 b hb hh
  exact not_lt_trans h6 hl h5
end
end DcLaw
end Go.Proofs.YtedeecnibmgobaaDoor
