/- Records of package foreign: what Hear makes of records that may be. No program in sight. -/
import Derived.Test.YtbjficjcgpgcbaaDoorFrn
namespace Go.Proofs.YtbjficjcgpgcbaaDoor.Frn
open Go Frm
set_option linter.unusedVariables false

theorem find_some {d : List Int} : ∀ {l : List (List Msg)} {i : Nat}, Frm.find d l = some i → i < l.length ∧ org (lastM (l.getD i [])).d = org d ∧ ∀ j, j < i → org (lastM (l.getD j [])).d ≠ org d
  | [], i, h => by cases h
  | r :: l, i, h => by
    unfold Frm.find at h
    split at h
    · rename_i hr
      obtain rfl := Option.some.inj h
      exact ⟨by simp, hr, fun j hj => absurd hj (Nat.not_lt_zero j)⟩
    · rename_i hr
      simp only [Option.map_eq_some_iff] at h
      obtain ⟨k, hk, rfl⟩ := h
      obtain ⟨h1, h2, h3⟩ := find_some hk
      refine ⟨by simpa using h1, by simpa using h2, fun j hj => ?_⟩
      cases j with
      | zero => exact hr
      | succ j => have := h3 j (by omega); simpa using this
theorem find_none {d : List Int} : ∀ {l : List (List Msg)}, Frm.find d l = none → ∀ r ∈ l, org (lastM r).d ≠ org d
  | [], _ => fun r hr => by cases hr
  | r :: l, h => by
    unfold Frm.find at h
    split at h
    · cases h
    · rename_i hr
      simp only [Option.map_eq_none_iff] at h
      intro x hx
      rcases List.mem_cons.1 hx with rfl | hx
      · exact hr
      · exact find_none h x hx
theorem oldest_spec : ∀ (l : List (List Msg)) (L : List (List Msg)) (t : Int) (k i : Nat), L.drop i = l → i ≤ L.length → k < i → (lastM (L.getD k [])).t = t → (∀ j, j < k → t < (lastM (L.getD j [])).t) → (∀ j, k < j → j < i → ¬ (lastM (L.getD j [])).t < t) →
    let o := oldest t k i l
    o < L.length ∧ (∀ j, j < o → (lastM (L.getD o [])).t < (lastM (L.getD j [])).t) ∧ ∀ j, o < j → j < L.length → ¬ (lastM (L.getD j [])).t < (lastM (L.getD o [])).t
  | [], L, t, k, i, hd, hi, hk, ht, h1, h2 => by
    have hl : L.length ≤ i := List.drop_eq_nil_iff.1 hd
    simp only [oldest]
    exact ⟨by omega, fun j hj => by rw [ht]; exact h1 j hj, fun j hj hj' => by rw [ht]; exact h2 j hj (by omega)⟩
  | r :: l, L, t, k, i, hd, hi, hk, ht, h1, h2 => by
    have hlt : i < L.length := by
      by_cases h : i < L.length
      · exact h
      · rw [List.drop_eq_nil_of_le (by omega)] at hd; cases hd
    have hr : L.getD i [] = r := by
      have : (L.drop i)[0]? = some r := by rw [hd]; rfl
      rw [List.getElem?_drop, Nat.add_zero] at this
      simp [List.getD, this]
    have hd' : L.drop (i + 1) = l := by rw [← List.drop_drop, hd]; rfl
    simp only [oldest]
    split
    · rename_i hlt'
      refine oldest_spec l L _ i (i + 1) hd' (by omega) (by omega) (by rw [hr]) (fun j hj => ?_) (fun j hj hj' => by omega)
      rcases Nat.lt_trichotomy j k with h | h | h
      · have := h1 j h; omega
      · subst h; omega
      · have := h2 j h hj; omega
    · rename_i hge
      refine oldest_spec l L t k (i + 1) hd' (by omega) (by omega) ht h1 (fun j hj hj' => ?_)
      by_cases h : j < i
      · exact h2 j hj h
      · obtain rfl : j = i := by omega
        rw [hr]; exact hge
theorem old_spec {l : List (List Msg)} (h : l ≠ []) : old l < l.length ∧ (∀ j, j < old l → (lastM (l.getD (old l) [])).t < (lastM (l.getD j [])).t) ∧ ∀ j, old l < j → j < l.length → ¬ (lastM (l.getD j [])).t < (lastM (l.getD (old l) [])).t := by
  cases l with
  | nil => exact absurd rfl h
  | cons r l =>
    have e : old (r :: l) = oldest (lastM r).t 0 1 l := by
      show oldest (lastM r).t 0 0 (r :: l) = _
      simp only [oldest]
      rw [if_neg (by omega)]
    rw [e]
    exact oldest_spec l (r :: l) (lastM r).t 0 1 rfl (by simp) (by omega) rfl (fun j hj => absurd hj (Nat.not_lt_zero j)) (fun j hj hj' => by omega)
theorem lastM_snoc (r : List Msg) (m : Msg) : lastM (r ++ [m]) = m := by simp [lastM]
theorem lastM_keep8 (r : List Msg) (m : Msg) : lastM (keep8 (r ++ [m])) = m := by
  unfold keep8
  split
  · rename_i h
    cases r with
    | nil => simp at h
    | cons x r => exact lastM_snoc r m
  · exact lastM_snoc r m
theorem mem_keep8 {r : List Msg} {m : Msg} (h : m ∈ keep8 r) : m ∈ r := by
  unfold keep8 at h
  split at h
  · exact List.mem_of_mem_tail h
  · exact h
theorem len_keep8 {r : List Msg} (m : Msg) (h : r.length ≤ 8) : 1 ≤ (keep8 (r ++ [m])).length ∧ (keep8 (r ++ [m])).length ≤ 8 := by
  unfold keep8
  split <;> simp at * <;> omega
theorem lastM_mem {r : List Msg} (h : 1 ≤ r.length) : lastM r ∈ r := by
  cases r with
  | nil => simp at h
  | cons x r => simp [lastM, List.getLastD]
theorem bad_zero {s : FS} {d : List Int} {t : Int} (h : bad s d t = 0) : (0 ≤ t ∧ t ≤ maxSim) ∧ s.now ≤ t ∧ d.getD 7 0 ≠ d.getD 9 0 ∧ d.getD 6 0 < 32 := by
  unfold bad at h
  split at h
  · cases h
  · split at h
    · cases h
    · split at h
      · cases h
      · split at h
        · cases h
        · refine ⟨by omega, by omega, by assumption, by omega⟩
theorem rsOk_hear {s : FS} (hs : RsOk s) {d : List Int} (hd : fitsK ks11 d) (t : Int) : RsOk (hear s d t) := by
  unfold hear
  split
  · rename_i h0
    obtain ⟨b1, b2, b3, b4⟩ := bad_zero h0
    have hm : MsgOk t ⟨d, t⟩ := ⟨hd, b1.1, Int.le_refl _⟩
    have hold : ∀ r ∈ s.l, ∀ m ∈ r, MsgOk t m := fun r hr m hm => ⟨(hs.msgs r hr m hm).fits, (hs.msgs r hr m hm).lo, Int.le_trans (hs.msgs r hr m hm).hi b2⟩
    show RsOk { s with now := t, l := put d t s.l }
    unfold put
    split
    · rename_i i hi
      obtain ⟨f1, f2, f3⟩ := find_some hi
      have hr : s.l.getD i [] ∈ s.l := by rw [List.getD_eq_getElem?_getD, List.getElem?_eq_getElem f1]; exact List.getElem_mem f1
      refine ⟨hs.win, hs.need, ⟨by show 0 ≤ t; omega, by show t ≤ _; omega⟩, by simpa using hs.five, fun r hr' => ?_, fun r hr' m hm' => ?_, ?_⟩
      · rcases List.mem_or_eq_of_mem_set hr' with h | rfl
        · exact hs.some r h
        · exact len_keep8 _ (hs.some _ hr).2
      · rcases List.mem_or_eq_of_mem_set hr' with h | rfl
        · exact hold r h m hm'
        · rcases List.mem_append.1 (mem_keep8 hm') with h | h
          · exact hold _ hr m h
          · obtain rfl := List.mem_singleton.1 h; exact hm
      · show (s.l.set i _).Pairwise _
        rw [List.pairwise_iff_getElem]
        intro a b ha hb hab
        have hp := List.pairwise_iff_getElem.1 hs.apart a b (by simpa using ha) (by simpa using hb) hab
        have e : ∀ (j : Nat) (hj : j < (s.l.set i (keep8 (s.l.getD i [] ++ [⟨d, t⟩]))).length), org (lastM (s.l.set i (keep8 (s.l.getD i [] ++ [⟨d, t⟩])))[j]).d = org (lastM (s.l[j]'(by simpa using hj))).d := fun j hj => by
          rw [List.getElem_set]
          split
          · rename_i hij
            subst hij
            rw [lastM_keep8]
            have e1 : s.l.getD i [] = s.l[i] := by rw [List.getD_eq_getElem?_getD, List.getElem?_eq_getElem f1]; rfl
            have f2' := f2
            rw [e1] at f2'
            exact f2'.symm
          · rfl
        rw [e a ha, e b hb]
        exact hp
    · rename_i hn
      have hne := find_none hn
      have hsub : ∀ r ∈ (if s.l.length = 5 then s.l.eraseIdx (old s.l) else s.l), r ∈ s.l := fun r hr => by
        by_cases h5 : s.l.length = 5
        · rw [if_pos h5] at hr; exact List.mem_of_mem_eraseIdx hr
        · rw [if_neg h5] at hr; exact hr
      refine ⟨hs.win, hs.need, ⟨by show 0 ≤ t; omega, by show t ≤ _; omega⟩, ?_, fun r hr => ?_, fun r hr m hm' => ?_, ?_⟩
      · show ((if s.l.length = 5 then s.l.eraseIdx (old s.l) else s.l) ++ [[(⟨d, t⟩ : Msg)]]).length ≤ 5
        have h5 := hs.five
        split
        · rename_i h
          have ho := (old_spec (l := s.l) (fun e => by rw [e] at h; cases h)).1
          simp [List.length_eraseIdx, ho]; omega
        · simp; omega
      · rcases List.mem_append.1 hr with h | h
        · exact hs.some r (hsub r h)
        · obtain rfl := List.mem_singleton.1 h; simp
      · rcases List.mem_append.1 hr with h | h
        · exact hold r (hsub r h) m hm'
        · obtain rfl := List.mem_singleton.1 h
          obtain rfl := List.mem_singleton.1 hm'
          exact hm
      · show ((if s.l.length = 5 then s.l.eraseIdx (old s.l) else s.l) ++ [[(⟨d, t⟩ : Msg)]]).Pairwise _
        refine List.pairwise_append.2 ⟨?_, List.pairwise_singleton _ _, fun a ha b hb => ?_⟩
        · split
          · exact hs.apart.sublist (List.eraseIdx_sublist _ _)
          · exact hs.apart
        · obtain rfl := List.mem_singleton.1 hb
          exact hne a (hsub a ha)
  · exact hs
theorem fits_len : ∀ {l : List IntKind} {d : List Int}, fitsK l d → d.length = l.length
  | [], d, h => by have : d = [] := h; subst this; rfl
  | k :: l, d, h => by
    have := fits_len h.2.2
    cases d with
    | nil => exact absurd rfl h.2.1
    | cons x d => simp at this ⊢; exact this
theorem range11_self {d : List Int} (h : d.length = 11) : ((List.range 11).map fun j => d.getD j 0) = d := by
  apply List.ext_getElem?
  intro i
  by_cases hi : i < 11
  · rw [List.getElem?_map, List.getElem?_range hi, List.getElem?_eq_getElem (by omega)]
    simp [List.getD_eq_getElem?_getD, List.getElem?_eq_getElem (show i < d.length by omega)]
  · rw [List.getElem?_eq_none (by simp; omega), List.getElem?_eq_none (by omega)]
end Go.Proofs.YtbjficjcgpgcbaaDoor.Frn
