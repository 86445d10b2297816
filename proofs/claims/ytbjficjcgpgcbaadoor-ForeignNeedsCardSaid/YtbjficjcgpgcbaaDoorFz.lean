/- Layer 35: rules of the records of a single master. -/
import Derived.Test.YtbjficjcgpgcbaaDoorFy
namespace Go.Proofs.YtbjficjcgpgcbaaDoor
open Go Go.RowKit SX Frm Frn
set_option linter.unusedVariables false
set_option linter.unusedSimpArgs false

/-! ### Plain -/
theorem d0_len : d0N.length = 11 := rfl
theorem d0N_fits : fitsK ks11 d0N := by
  have n : ∀ (a : Int) (l : List Int), a :: l ≠ [] := fun _ _ h => nomatch h
  exact ⟨by decide, n _ _, by decide, n _ _, by decide, n _ _, by decide, n _ _, by decide, n _ _, by decide, n _ _, by decide, n _ _, by decide, n _ _, by decide, n _ _, by decide, n _ _, by decide, n _ _, rfl⟩
def lst8 {α : Type} (l : List α) : List α := if l.length > 8 then l.tail else l
theorem lst8_map {α β : Type} (f : α → β) (l : List α) : lst8 (l.map f) = (lst8 l).map f := by
  unfold lst8
  rw [List.length_map]
  split
  · rw [List.map_tail]
  · rfl
theorem lst8_last (l : List Int) (t : Int) : (lst8 (l ++ [t])).getLastD 0 = t ∧ lst8 (l ++ [t]) ≠ [] := by
  unfold lst8
  split
  · rename_i h
    cases l with
    | nil => simp at h
    | cons x l => simp
  · simp
theorem solo_hear {s : FS} {win need t : Int} {ts : List Int} (h : Solo s win need ts) (hz : bad s d0N t = 0) : Solo (hear s d0N t) win need (lst8 (ts ++ [t])) := by
  have hk := rsOk_hear h.ok d0N_fits t
  have hw := hear_win s d0N t
  obtain ⟨g1, g2⟩ := lst8_last ts t
  refine ⟨hk, by rw [hw.1, h.win], by rw [hw.2, h.need], ?_, ?_⟩
  · rw [hear_ok hz, g1]
  · rw [hear_ok hz, if_neg g2]
    show put d0N t s.l = _
    rw [h.l]
    by_cases c : ts = []
    · subst c
      rfl
    · rw [if_neg c]
      have hl : (lastM (ts.map fun t => (⟨d0N, t⟩ : Msg))).d = d0N := by
        obtain ⟨l, a, rfl⟩ : ∃ l a, ts = l ++ [a] := ⟨ts.dropLast, ts.getLast c, (List.dropLast_concat_getLast c).symm⟩
        rw [List.map_append]
        show (lastM (l.map _ ++ [⟨d0N, a⟩])).d = _
        rw [lastM_snoc]
      have hf : Frm.find d0N [ts.map fun t => (⟨d0N, t⟩ : Msg)] = some 0 := by
        unfold Frm.find
        rw [if_pos (by rw [hl])]
      unfold put
      rw [hf]
      show [keep8 ((ts.map fun t => (⟨d0N, t⟩ : Msg)) ++ [⟨d0N, t⟩])] = _
      have : (ts.map fun t => (⟨d0N, t⟩ : Msg)) ++ [⟨d0N, t⟩] = (ts ++ [t]).map fun t => (⟨d0N, t⟩ : Msg) := by simp
      rw [this, ← lst8_map]
      rfl
theorem solo_new {win need : Int} (hw : 1 ≤ win ∧ win ≤ maxSim) (hn : 1 ≤ need ∧ need ≤ 8) : Solo (newS win need) win need [] := ⟨newS_ok hw hn, rfl, rfl, rfl, rfl⟩
theorem solo_rng {s : FS} {win need : Int} {ts : List Int} (h : Solo s win need ts) {t : Int} (ht : t ∈ ts) : 0 ≤ t ∧ t ≤ maxSim := by
  have hne : ts ≠ [] := fun e => by rw [e] at ht; cases ht
  have hl := h.l
  rw [if_neg hne] at hl
  have := h.ok.msgs (ts.map fun t => ⟨d0N, t⟩) (by rw [hl]; exact List.mem_singleton.2 rfl) ⟨d0N, t⟩ (List.mem_map.2 ⟨t, ht, rfl⟩)
  exact ⟨this.lo, Int.le_trans this.hi h.ok.now.2⟩
theorem solo_qual {s : FS} {win need : Int} {ts : List Int} (h : Solo s win need ts) (a : Int) : qual s a = if ts = [] then [] else if need ≤ cntN (max a (ts.getLastD 0)) win ts then [d0N] else [] := by
  unfold qual quals
  rw [h.l]
  by_cases c : ts = []
  · rw [if_pos c, if_pos c]; rfl
  · rw [if_neg c, if_neg c]
    have hr : recent s a (ts.map fun t => (⟨d0N, t⟩ : Msg)) = (ts.filter fun t => decide (max a (ts.getLastD 0) - t < win)).length := by
      unfold recent
      rw [List.filter_map, List.length_map, h.now, h.win]
      congr 1
      refine List.filter_congr fun t _ => ?_
      show isNew _ (⟨d0N, t⟩ : Msg) = _
      unfold isNew
      refine decide_eq_decide.2 ?_
      show _ < t ↔ _
      omega
    have hl : (lastM (ts.map fun t => (⟨d0N, t⟩ : Msg))).d = d0N := by
      obtain ⟨l, a, rfl⟩ : ∃ l a, ts = l ++ [a] := ⟨ts.dropLast, ts.getLast c, (List.dropLast_concat_getLast c).symm⟩
      rw [List.map_append]
      show (lastM (l.map _ ++ [⟨d0N, a⟩])).d = _
      rw [lastM_snoc]
    rw [List.filter_cons, hr, h.need]
    unfold cntN
    by_cases cc : need ≤ ((ts.filter fun t => decide (max a (ts.getLastD 0) - t < win)).length : Int)
    · rw [if_pos cc, if_pos (decide_eq_true cc)]
      show [(lastM _).d] = _
      rw [hl]
    · rw [if_neg cc, if_neg (by rw [decide_eq_true_iff]; exact cc)]
      rfl
/-! ### Rules -/
def nD : List E := d0N.map E.lit
def soloE (x : E) (ts : List E) : E := .app 55 0 (x :: .var 0 :: .var 1 :: ts)
def cntE (now : E) (ts : List E) : E := .app 56 0 (now :: .var 0 :: ts)
def hearS (x t : E) (ts : List E) : Rule := ⟨[(okF0 x nD t, true), isE (soloE x ts) 1], [isE (soloE (hearE x nD t) (lst8 (ts ++ [t]))) 1]⟩
def neeEnd (x a : E) : Rule := ⟨[isE (soloE x []) 1], [isE (qnE x a) 0]⟩
def rngF (ts : List E) : Fs := ts.flatMap fun c => [(lt0 c (.lit 0), false), (lt0 (.lit 1125899906842624) c, false)]
def rngR (x : E) (ts : List E) : Rule := ⟨[isE (soloE x ts) 1], rngF ts⟩
def cnt0 (now : E) : Rule := ⟨[], [isE (cntE now []) 0]⟩
def stepC (now c : E) (ts : List E) : List Rule := [⟨[(lt0 (.bin .zadd .i64 now (.bin .zmul .i64 (.lit (-1)) c)) (.var 0), true)], [(eq0 (cntE now (ts ++ [c])) (.bin .zadd .i64 (cntE now ts) (.lit 1)), true)]⟩,
  ⟨[(lt0 (.bin .zadd .i64 now (.bin .zmul .i64 (.lit (-1)) c)) (.var 0), false)], [(eq0 (cntE now (ts ++ [c])) (cntE now ts), true)]⟩, ⟨[], [(lt0 (cntE now (ts ++ [c])) (.lit 0), false), (lt0 (.lit 8) (cntE now (ts ++ [c])), false)]⟩]
def endS (x a l : E) (ts : List E) : List Rule := [⟨[isE (soloE x ts) 1, isE (qnE x a) 0], [(lt0 (cntE (.bin .max .i64 a l) ts) (.var 1), true)]⟩,
  ⟨[isE (soloE x ts) 1, isE (qnE x a) 1], (lt0 (cntE (.bin .max .i64 a l) ts) (.var 1), false) :: (List.range 11).map fun j => (.bin .eq (knd j) (qfE x a 0 j) (nD.getD j (.lit 0)), true)⟩] ++
  [2, 3, 4, 5].map fun m => ⟨[isE (soloE x ts) 1, isE (qnE x a) m], [(.lit 0, true)]⟩
def newS0 : Rule := ⟨[(lt0 (.var 0) (.lit 1), false), (lt0 (.lit 1125899906842624) (.var 0), false), (lt0 (.var 1) (.lit 1), false), (lt0 (.lit 8) (.var 1), false)], [isE (soloE (newE (.var 0) (.var 1)) []) 1]⟩
section
variable {ρ : Env}
theorem soloE_ev (hf : ρ.fn = FN) (x : E) (ts : List E) : (isE (soloE x ts) 1).1.ev ρ ≠ 0 ↔ Solo (dec (x.ev ρ)) (ρ.v 0) (ρ.v 1) (E.evs ρ ts) := by
  rw [isE_ev]
  show ρ.fn 55 0 (x.ev ρ :: ρ.v 0 :: ρ.v 1 :: E.evs ρ ts) = _ ↔ _
  rw [hf]
  show soloN (x.ev ρ) (ρ.v 0) (ρ.v 1) (E.evs ρ ts) = _ ↔ _
  unfold soloN
  split <;> simp [*]
theorem cntE_ev (hf : ρ.fn = FN) (now : E) (ts : List E) : (cntE now ts).ev ρ = cntN (now.ev ρ) (ρ.v 0) (E.evs ρ ts) := by
  show ρ.fn 56 0 (now.ev ρ :: ρ.v 0 :: E.evs ρ ts) = _
  rw [hf]
  rfl
theorem nD_ev : E.evs ρ nD = d0N := rfl
theorem evs_lst8 (ts : List E) : E.evs ρ (lst8 ts) = lst8 (E.evs ρ ts) := by
  unfold lst8
  rw [evs_len]
  split
  · cases ts <;> rfl
  · rfl
theorem hearS_ok (hf : ρ.fn = FN) (x t : E) (ts : List E) : RuleOk ρ (hearS x t ts) := fun hp => by
  have hp : SX.FsOk ρ [(okF0 x nD t, true), ((isE (soloE x ts) 1).1, true)] := hp
  simp only [fsOk_cons, fsOk_nil, iff_true, and_true, okF0_ev hf (d := nD) rfl, soloE_ev hf, nD_ev] at hp
  obtain ⟨hz, hs⟩ := hp
  show SX.FsOk ρ [((isE _ _).1, true)]
  rw [fsOk_one, tru, soloE_ev hf, hearE_ev hf (d := nD) rfl, dec_code, nD_ev, evs_lst8, evs_app]
  exact solo_hear hs hz
theorem neeEnd_ok (hf : ρ.fn = FN) (x a : E) : RuleOk ρ (neeEnd x a) := fun hp => by
  have hp : SX.FsOk ρ [((isE (soloE x []) 1).1, true)] := hp
  rw [fsOk_one, tru, soloE_ev hf] at hp
  show SX.FsOk ρ [((isE _ _).1, true)]
  rw [fsOk_one, tru, isE_ev, qnE_ev hf, solo_qual hp]
  rfl
theorem evs_mem {c : E} : ∀ {ts : List E}, c ∈ ts → c.ev ρ ∈ E.evs ρ ts
  | a :: ts, h => by
    rcases List.mem_cons.1 h with rfl | h
    · exact List.mem_cons_self ..
    · exact List.mem_cons_of_mem _ (evs_mem h)
theorem rngR_ok (hf : ρ.fn = FN) (x : E) (ts : List E) : RuleOk ρ (rngR x ts) := fun hp => by
  have hp : SX.FsOk ρ [((isE (soloE x ts) 1).1, true)] := hp
  rw [fsOk_one, tru, soloE_ev hf] at hp
  intro p hp'
  obtain ⟨c, hc, hp'⟩ := List.mem_flatMap.1 (show p ∈ ts.flatMap _ from hp')
  have h := solo_rng hp (evs_mem hc)
  unfold maxSim at h
  simp only [List.mem_cons, List.not_mem_nil, or_false] at hp'
  rcases hp' with rfl | rfl
  · show (lt0 _ _).ev ρ ≠ 0 ↔ false = true
    rw [fls, lt0_ev, lit_ev]; omega
  · show (lt0 _ _).ev ρ ≠ 0 ↔ false = true
    rw [fls, lt0_ev, lit_ev]; omega
theorem cnt0_ok (hf : ρ.fn = FN) (now : E) : RuleOk ρ (cnt0 now) := fun _ => by
  show SX.FsOk ρ [((isE _ _).1, true)]
  rw [fsOk_one, tru, isE_ev, cntE_ev hf]
  rfl
theorem cnt_snoc (n w c : Int) (ts : List Int) : cntN n w (ts ++ [c]) = cntN n w ts + if n - c < w then 1 else 0 := by
  unfold cntN
  rw [List.filter_append, List.length_append]
  by_cases h : n - c < w
  · rw [if_pos h, List.filter_cons, if_pos (decide_eq_true h)]; simp
  · rw [if_neg h, List.filter_cons, if_neg (by rw [decide_eq_true_iff]; exact h)]; simp
theorem stepC_ok (hf : ρ.fn = FN) (now c : E) {ts : List E} (hl : ts.length < 8) : ∀ q ∈ stepC now c ts, RuleOk ρ q := by
  have e : (E.bin .zadd .i64 now (.bin .zmul .i64 (.lit (-1)) c)).ev ρ = now.ev ρ - c.ev ρ := by
    show now.ev ρ + (-1) * c.ev ρ = _
    omega
  have hs := cnt_snoc (now.ev ρ) (ρ.v 0) (c.ev ρ) (E.evs ρ ts)
  have e2 : (cntE now (ts ++ [c])).ev ρ = cntN (now.ev ρ) (ρ.v 0) (E.evs ρ ts ++ [c.ev ρ]) := by rw [cntE_ev hf, evs_app]; rfl
  intro q hq
  simp only [stepC, List.mem_cons, List.not_mem_nil, or_false] at hq
  rcases hq with rfl | rfl | rfl
  · intro hp
    have hp : SX.FsOk ρ [(lt0 _ _, true)] := hp
    rw [fsOk_one, tru, lt0_ev, e] at hp
    have hp : now.ev ρ - c.ev ρ < ρ.v 0 := hp
    show SX.FsOk ρ [(eq0 _ _, true)]
    rw [fsOk_one, tru]
    unfold eq0
    rw [eqk_ev, e2, hs, if_pos hp]
    show _ = (cntE now ts).ev ρ + 1
    rw [cntE_ev hf]
  · intro hp
    have hp : SX.FsOk ρ [(lt0 _ _, false)] := hp
    rw [fsOk_one, fls, lt0_ev, e] at hp
    have hp : ¬ now.ev ρ - c.ev ρ < ρ.v 0 := hp
    show SX.FsOk ρ [(eq0 _ _, true)]
    rw [fsOk_one, tru]
    unfold eq0
    rw [eqk_ev, e2, hs, if_neg hp, cntE_ev hf, Int.add_zero]
  · intro _
    show SX.FsOk ρ [(lt0 _ _, false), (lt0 _ _, false)]
    simp only [fsOk_cons, fsOk_nil, Bool.false_eq_true, iff_false, and_true, lt0_ev, lit_ev, e2]
    unfold cntN
    have h1 := List.length_filter_le (fun t => decide (now.ev ρ - t < ρ.v 0)) (E.evs ρ ts ++ [c.ev ρ])
    rw [List.length_append, evs_len, List.length_singleton] at h1
    exact ⟨by omega, by omega⟩
theorem last_ev {ts : List E} {l : E} (hl : ts.getLast? = some l) : (E.evs ρ ts).getLastD 0 = l.ev ρ ∧ E.evs ρ ts ≠ [] := by
  obtain ⟨q, rfl⟩ : ∃ q, ts = q ++ [l] := by
    rw [List.getLast?_eq_some_iff] at hl
    exact hl
  rw [evs_app]
  show (E.evs ρ q ++ [l.ev ρ]).getLastD 0 = _ ∧ E.evs ρ q ++ [l.ev ρ] ≠ []
  simp
theorem endS_ok (hf : ρ.fn = FN) (x a : E) {l : E} {ts : List E} (hl : ts.getLast? = some l) : ∀ q ∈ endS x a l ts, RuleOk ρ q := by
  obtain ⟨l1, l2⟩ := last_ev (ρ := ρ) hl
  have hm : (E.bin .max .i64 a l).ev ρ = max (a.ev ρ) (l.ev ρ) := by
    show BOp.ev .max .i64 (a.ev ρ) (l.ev ρ) = _
    unfold BOp.ev
    simp only
    omega
  have key : Solo (dec (x.ev ρ)) (ρ.v 0) (ρ.v 1) (E.evs ρ ts) → qual (dec (x.ev ρ)) (a.ev ρ) = if ρ.v 1 ≤ (cntE (.bin .max .i64 a l) ts).ev ρ then [d0N] else [] := fun h => by
    rw [solo_qual h, if_neg l2, l1, cntE_ev hf, hm]
  intro q hq
  unfold endS at hq
  rcases List.mem_append.1 hq with hq | hq
  · simp only [List.mem_cons, List.not_mem_nil, or_false] at hq
    rcases hq with rfl | rfl
    · intro hp
      have hp : SX.FsOk ρ [((isE (soloE x ts) 1).1, true), ((isE (qnE x a) 0).1, true)] := hp
      simp only [fsOk_cons, fsOk_nil, iff_true, and_true, soloE_ev hf, isE_ev, qnE_ev hf] at hp
      obtain ⟨h1, h2⟩ := hp
      rw [key h1] at h2
      show SX.FsOk ρ [(lt0 _ _, true)]
      rw [fsOk_one, tru, lt0_ev]
      show _ < ρ.v 1
      by_cases c : ρ.v 1 ≤ (cntE (.bin .max .i64 a l) ts).ev ρ
      · rw [if_pos c] at h2; cases h2
      · omega
    · intro hp
      have hp : SX.FsOk ρ [((isE (soloE x ts) 1).1, true), ((isE (qnE x a) 1).1, true)] := hp
      simp only [fsOk_cons, fsOk_nil, iff_true, and_true, soloE_ev hf, isE_ev, qnE_ev hf] at hp
      obtain ⟨h1, h2⟩ := hp
      have hk := key h1
      rw [hk] at h2
      by_cases c : ρ.v 1 ≤ (cntE (.bin .max .i64 a l) ts).ev ρ
      · rw [if_pos c] at hk
        intro p hp
        rcases List.mem_cons.1 (show p ∈ _ :: _ from hp) with rfl | hp
        · show (lt0 _ _).ev ρ ≠ 0 ↔ false = true
          rw [fls, lt0_ev]
          show ¬ _ < ρ.v 1
          omega
        · obtain ⟨j, hj, rfl⟩ := List.mem_map.1 hp
          show (E.bin .eq (knd j) (qfE x a 0 j) (nD.getD j (.lit 0))).ev ρ ≠ 0 ↔ true = true
          rw [tru, eqk_ev, qfE_ev hf, hk]
          show d0N.getD j 0 = ((d0N.map E.lit).getD j (.lit 0)).ev ρ
          have hj' : j < d0N.length := List.mem_range.1 hj
          rw [List.getD_eq_getElem?_getD, List.getD_eq_getElem?_getD, List.getElem?_map, List.getElem?_eq_getElem hj']
          rfl
      · rw [if_neg c] at h2; cases h2
  · obtain ⟨m, hm', rfl⟩ := List.mem_map.1 hq
    intro hp
    have hp : SX.FsOk ρ [((isE (soloE x ts) 1).1, true), ((isE (qnE x a) m).1, true)] := hp
    simp only [fsOk_cons, fsOk_nil, iff_true, and_true, soloE_ev hf, isE_ev, qnE_ev hf] at hp
    obtain ⟨h1, h2⟩ := hp
    rw [key h1] at h2
    exfalso
    have h3 : 2 ≤ m := by
      simp only [List.mem_cons, List.not_mem_nil, or_false] at hm'
      omega
    split at h2
    · have : (1 : Int) = (m : Int) := h2
      omega
    · have : (0 : Int) = (m : Int) := h2
      omega
theorem newS0_ok (hf : ρ.fn = FN) : RuleOk ρ newS0 := fun hp => by
  have hp : SX.FsOk ρ [(lt0 (.var 0) (.lit 1), false), (lt0 (.lit 1125899906842624) (.var 0), false), (lt0 (.var 1) (.lit 1), false), (lt0 (.lit 8) (.var 1), false)] := hp
  simp only [fsOk_cons, fsOk_nil, Bool.false_eq_true, iff_false, and_true, lt0_ev, lit_ev] at hp
  obtain ⟨a1, a2, a3, a4⟩ := hp
  have a1 : ¬ ρ.v 0 < 1 := a1
  have a2 : ¬ 1125899906842624 < ρ.v 0 := a2
  have a3 : ¬ ρ.v 1 < 1 := a3
  have a4 : ¬ 8 < ρ.v 1 := a4
  show SX.FsOk ρ [((isE _ _).1, true)]
  rw [fsOk_one, tru, soloE_ev hf, newE_ev hf, dec_code]
  exact solo_new ⟨by omega, by unfold maxSim; omega⟩ ⟨by omega, by omega⟩
end
end Go.Proofs.YtbjficjcgpgcbaaDoor
