/- Layer 35: rules of records that are bounded. -/
import Derived.Test.YtbjficjcgpgcbaaDoorFx
import Derived.Test.YtbjficjcgpgcbaaDoorMh
namespace Go.Proofs.YtbjficjcgpgcbaaDoor
open Go Go.RowKit SX Frm Frn
set_option linter.unusedVariables false
set_option linter.unusedSimpArgs false

/-! ### Plain -/
theorem put_has (d : List Int) (t : Int) (l : List (List Msg)) : ∃ r ∈ put d t l, lastM r = ⟨d, t⟩ ∧ (⟨d, t⟩ : Msg) ∈ r := by
  unfold put
  split
  · rename_i i hi
    obtain ⟨f1, _, _⟩ := find_some hi
    refine ⟨keep8 (l.getD i [] ++ [⟨d, t⟩]), List.mem_set f1 _, lastM_keep8 _ _, ?_⟩
    unfold keep8
    split
    · rename_i h
      cases hl : l.getD i [] with
      | nil => rw [hl] at h; simp at h
      | cons x r => simp
    · simp
  · exact ⟨[⟨d, t⟩], by simp, lastM_snoc [] _, by simp⟩
theorem heard_qual {s : FS} (hs : RsOk s) {d : List Int} {t : Int} (hz : bad s d t = 0) (hn : s.need = 1) : d ∈ qual (hear s d t) t := by
  rw [hear_ok hz]
  obtain ⟨r, hr, h1, h2⟩ := put_has d t s.l
  unfold qual
  rw [List.mem_map]
  refine ⟨r, ?_, by rw [h1]⟩
  unfold quals
  rw [List.mem_filter, decide_eq_true_iff]
  refine ⟨hr, ?_⟩
  show s.need ≤ _
  rw [hn]
  have : 0 < (r.filter (isNew (max t t - s.win))).length := by
    rw [List.length_pos_iff]
    intro h
    have hm : (⟨d, t⟩ : Msg) ∈ r.filter (isNew (max t t - s.win)) := by
      rw [List.mem_filter]
      refine ⟨h2, ?_⟩
      unfold isNew
      rw [decide_eq_true_iff]
      have := hs.win
      show max t t - s.win < t
      omega
    rw [h] at hm
    cases hm
  show (1 : Int) ≤ (((r.filter (isNew (max t t - s.win))).length : Nat) : Int)
  omega
theorem qual_apart {s : FS} (hs : RsOk s) (t : Int) : (qual s t).Pairwise fun a b => org a ≠ org b := by
  unfold qual quals
  rw [List.pairwise_map]
  exact hs.apart.sublist List.filter_sublist
theorem qual_le {s : FS} (t : Int) : (qual s t).length ≤ s.l.length := by
  unfold qual quals
  rw [List.length_map]
  exact List.length_filter_le _ _
/-! ### Rules -/
def isE (e : E) (n : Nat) : E × Bool := (eq0 e (.lit (Int.ofNat n)), true)
/-- A message that is taken is qualified at once. -/
def heardR (x : E) (d : List E) (t : E) (m : Nat) : Rule := ⟨[(okF0 x d t, true), (one1 (goodE x), true), isE (needE x) 1, qnIs (hearE x d t) t m], [isE (fndE (hearE x d t) t m d) 1]⟩
def noneR (x t : E) (d : List E) : Rule := ⟨[], [isE (fndE x t 0 d) 0]⟩
def eqD (x t : E) (k : Nat) : List E → Nat → E
  | [], _ => .lit 1
  | [e], j => .bin .eq (knd j) (qfE x t k j) e
  | e :: l, j => .bin .band .i64 (.bin .eq (knd j) (qfE x t k j) e) (eqD x t k l (j + 1))
def nextR (x t : E) (d : List E) (m k : Nat) : List Rule := [⟨[(fndE x t k d, true)], [isE (fndE x t (k + 1) d) 1]⟩, ⟨[(one1 (goodE x), true), qnIs x t m, (fndE x t k d, false)], [(eq0 (fndE x t (k + 1) d) (eqD x t k d 0), true)]⟩]
def lenR (x t : E) (m : Nat) : List Rule := [⟨[(one1 (goodE x), true), qnIs x t m], [(lt0 (.lit 5) (lenE x), false), (lt0 (lenE x) (.lit (Int.ofNat m)), false)]⟩]
def apartR (x t : E) (m k j : Nat) : Rule := ⟨[(one1 (goodE x), true), qnIs x t m, (.bin .eq .u64 (qfE x t j 7) (qfE x t k 7), true), (.bin .eq .i64 (qfE x t j 8) (qfE x t k 8), true)], [(.lit 0, true)]⟩
section
variable {ρ : Env}
theorem isE_ev (e : E) (n : Nat) : (isE e n).1.ev ρ ≠ 0 ↔ e.ev ρ = n := by
  unfold isE eq0
  rw [eqk_ev]; rfl
theorem noneR_ok (hf : ρ.fn = FN) (x t : E) (d : List E) : RuleOk ρ (noneR x t d) := fun _ => by
  show SX.FsOk ρ [((isE _ _).1, true)]
  rw [fsOk_one, tru, isE_ev, fndE_ev hf]
  simp
theorem heardR_ok (hf : ρ.fn = FN) (x t : E) {d : List E} (hd : d.length = 11) (m : Nat) : RuleOk ρ (heardR x d t m) := fun hp => by
  have hp : SX.FsOk ρ [(okF0 x d t, true), (one1 (goodE x), true), ((isE (needE x) 1).1, true), ((qnIs (hearE x d t) t m).1, true)] := hp
  simp only [fsOk_cons, fsOk_nil, iff_true, and_true, okF0_ev hf hd, good_ev hf, isE_ev, needE_ev hf, qnIs_ev hf, hearE_ev hf hd, dec_code] at hp
  obtain ⟨hz, hs, hn, hm⟩ := hp
  show SX.FsOk ρ [((isE _ _).1, true)]
  rw [fsOk_one, tru, isE_ev, fndE_ev hf, hearE_ev hf hd, dec_code, List.take_of_length_le (by omega), if_pos (heard_qual hs hz hn)]
  rfl
theorem eqD_ev (hf : ρ.fn = FN) (x t : E) (k : Nat) : ∀ (l : List E) (j : Nat), (eqD x t k l j).ev ρ ≠ 0 ↔ ∀ i, i < l.length → ((qual (dec (x.ev ρ)) (t.ev ρ)).getD k []).getD (j + i) 0 = (E.evs ρ l).getD i 0
  | [], j => ⟨fun _ i h => absurd h (Nat.not_lt_zero i), fun _ => by show (1 : Int) ≠ 0; decide⟩
  | [e], j => by
    show (if (qfE x t k j).ev ρ = e.ev ρ then (1 : Int) else 0) ≠ 0 ↔ _
    rw [ite_ne, qfE_ev hf]
    refine ⟨fun h i hi => ?_, fun h => h 0 (Nat.lt_succ_self 0)⟩
    have : i = 0 := by simp at hi; exact hi
    subst this
    exact h
  | e :: e2 :: l, j => by
    show (if (if (qfE x t k j).ev ρ = e.ev ρ then (1 : Int) else 0) ≠ 0 ∧ (eqD x t k (e2 :: l) (j + 1)).ev ρ ≠ 0 then (1 : Int) else 0) ≠ 0 ↔ _
    rw [ite_ne, ite_ne, qfE_ev hf, eqD_ev hf x t k (e2 :: l) (j + 1)]
    refine ⟨fun ⟨h1, h2⟩ i hi => ?_, fun h => ⟨h 0 (Nat.zero_lt_succ _), fun i hi => ?_⟩⟩
    · cases i with
      | zero => exact h1
      | succ i =>
        have := h2 i (by simpa using hi)
        rw [show j + (i + 1) = j + 1 + i by omega]
        exact this
    · have := h (i + 1) (by simpa using hi)
      rw [show j + (i + 1) = j + 1 + i by omega] at this
      exact this
theorem ite01 {p : Prop} {_ : Decidable p} : (if p then (1 : Int) else 0) = 0 ∨ (if p then (1 : Int) else 0) = 1 := by
  by_cases c : p
  · rw [if_pos c]; exact .inr rfl
  · rw [if_neg c]; exact .inl rfl
theorem eqD_01 (x t : E) (k : Nat) : ∀ (l : List E) (j : Nat), (eqD x t k l j).ev ρ = 0 ∨ (eqD x t k l j).ev ρ = 1
  | [], j => .inr rfl
  | [e], j => ite01
  | e :: e2 :: l, j => ite01
theorem nextR_ok (hf : ρ.fn = FN) {x t : E} {d : List E} (hd : d.length = 11) {m k : Nat} (hk : k < m) : ∀ q ∈ nextR x t d m k, RuleOk ρ q := by
  intro q hq
  simp only [nextR, List.mem_cons, List.not_mem_nil, or_false] at hq
  rcases hq with rfl | rfl
  · intro hp
    have hp : SX.FsOk ρ [(fndE x t k d, true)] := hp
    rw [fsOk_one, tru, fndE_ev hf] at hp
    show SX.FsOk ρ [((isE _ _).1, true)]
    rw [fsOk_one, tru, isE_ev, fndE_ev hf, if_pos]
    · rfl
    · by_cases c : E.evs ρ d ∈ (qual (dec (x.ev ρ)) (t.ev ρ)).take k
      · exact List.take_subset_take_left _ (Nat.le_succ k) c
      · rw [if_neg c] at hp
        exact absurd rfl hp
  · intro hp
    have hp : SX.FsOk ρ [(one1 (goodE x), true), ((qnIs x t m).1, true), (fndE x t k d, false)] := hp
    simp only [fsOk_cons, fsOk_nil, iff_true, Bool.false_eq_true, iff_false, and_true, good_ev hf, qnIs_ev hf] at hp
    obtain ⟨hs, hm, h0⟩ := hp
    have hil : k < (qual (dec (x.ev ρ)) (t.ev ρ)).length := by omega
    rw [fndE_ev hf] at h0
    have h0 : ¬ E.evs ρ d ∈ (qual (dec (x.ev ρ)) (t.ev ρ)).take k := fun h => h0 (by rw [if_pos h]; decide)
    show SX.FsOk ρ [(eq0 _ _, true)]
    rw [fsOk_one, tru]
    unfold eq0
    rw [eqk_ev, fndE_ev hf]
    have key := eqD_ev hf x t k d 0
    have hq : (qual (dec (x.ev ρ)) (t.ev ρ)).getD k [] = (qual (dec (x.ev ρ)) (t.ev ρ))[k] := by rw [List.getD_eq_getElem?_getD, List.getElem?_eq_getElem hil]; rfl
    have l1 : (E.evs ρ d).length = 11 := by rw [evs_len]; exact hd
    have l2 := qual_len hs (t.ev ρ) (List.getElem_mem hil)
    rw [hq] at key
    have same : (∀ i, i < d.length → (qual (dec (x.ev ρ)) (t.ev ρ))[k].getD (0 + i) 0 = (E.evs ρ d).getD i 0) ↔ E.evs ρ d ∈ (qual (dec (x.ev ρ)) (t.ev ρ)).take (k + 1) := by
      rw [List.take_succ_eq_append_getElem hil, List.mem_append, List.mem_singleton]
      refine ⟨fun h => .inr ?_, fun h i hi => ?_⟩
      · rw [← range11_self l1, ← range11_self l2]
        refine List.map_congr_left fun i hi => ?_
        have := h i (by rw [hd]; exact List.mem_range.1 hi)
        rw [Nat.zero_add] at this
        exact this.symm
      · rcases h with h | h
        · exact absurd h h0
        · rw [Nat.zero_add, h]
    rw [same] at key
    by_cases c : E.evs ρ d ∈ (qual (dec (x.ev ρ)) (t.ev ρ)).take (k + 1)
    · rw [if_pos c]
      rcases eqD_01 (ρ := ρ) x t k d 0 with h | h
      · exact absurd h (key.2 c)
      · exact h.symm
    · rw [if_neg c]
      rcases eqD_01 (ρ := ρ) x t k d 0 with h | h
      · exact h.symm
      · exact absurd (key.1 (by rw [h]; decide)) c
theorem lenR_ok (hf : ρ.fn = FN) (x t : E) (m : Nat) : ∀ q ∈ lenR x t m, RuleOk ρ q := by
  intro q hq
  obtain rfl := List.mem_singleton.1 hq
  intro hp
  have hp : SX.FsOk ρ [(one1 (goodE x), true), ((qnIs x t m).1, true)] := hp
  simp only [fsOk_cons, fsOk_nil, iff_true, and_true, good_ev hf, qnIs_ev hf] at hp
  obtain ⟨hs, hm⟩ := hp
  have h5 := hs.five
  have hl := qual_le (s := dec (x.ev ρ)) (t.ev ρ)
  show SX.FsOk ρ [(lt0 _ _, false), (lt0 _ _, false)]
  simp only [fsOk_cons, fsOk_nil, Bool.false_eq_true, iff_false, and_true, lt0_ev, lenE_ev hf, lit_ev]
  refine ⟨?_, ?_⟩
  · omega
  · show ¬ ((dec (x.ev ρ)).l.length : Int) < (m : Int)
    omega
theorem apartR_ok (hf : ρ.fn = FN) (x t : E) {m k j : Nat} (hk : k < m) (hj : j < k) : RuleOk ρ (apartR x t m k j) := fun hp => by
  have hp : SX.FsOk ρ [(one1 (goodE x), true), ((qnIs x t m).1, true), (.bin .eq .u64 (qfE x t j 7) (qfE x t k 7), true), (.bin .eq .i64 (qfE x t j 8) (qfE x t k 8), true)] := hp
  simp only [fsOk_cons, fsOk_nil, iff_true, and_true, good_ev hf, qnIs_ev hf, eqk_ev, qfE_ev hf] at hp
  obtain ⟨hs, hm, h7, h8⟩ := hp
  have hp := List.pairwise_iff_getElem.1 (qual_apart hs (t.ev ρ)) j k (by omega) (by omega) hj
  have e : ∀ i (hi : i < (qual (dec (x.ev ρ)) (t.ev ρ)).length), (qual (dec (x.ev ρ)) (t.ev ρ)).getD i [] = (qual (dec (x.ev ρ)) (t.ev ρ))[i] := fun i hi => by rw [List.getD_eq_getElem?_getD, List.getElem?_eq_getElem hi]; rfl
  rw [e j (by omega), e k (by omega)] at h7 h8
  refine absurd ?_ hp
  unfold org
  rw [h7, h8]
end
end Go.Proofs.YtbjficjcgpgcbaaDoor
