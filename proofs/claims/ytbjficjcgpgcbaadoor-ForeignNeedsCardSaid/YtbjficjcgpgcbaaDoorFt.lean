/- Layer 35: rules of records: what a message does to them. -/
import Derived.Test.YtbjficjcgpgcbaaDoorFs
namespace Go.Proofs.YtbjficjcgpgcbaaDoor
open Go Go.RowKit SX Frm Frn
set_option linter.unusedVariables false
set_option linter.unusedSimpArgs false

def rdD (i : E) : List E := [.rd 0 19 i, .rd 0 27 i, .rd 0 35 i, .rd 0 43 i, .rd 0 51 i, .rd 0 63 i, .rd 0 67 i, .rd 0 79 i, .rd 0 83 i, .rd 0 95 i, .rd 0 99 i]
def rdAt (i : E) : E := .rd 0 11 i
def okF0 (x : E) (d : List E) (t : E) : E := eq0 (badE x d t) (.lit 0)
def hearR (x : E) (d : List E) (t : E) : Rule := ⟨[(okF0 x d t, true)], [(eq0 (nowE (hearE x d t)) t, true)]⟩
def sameE (a b : E) : E := .bin .eq .u64 a b
def ge32 (st : E) : E := eq0 (lt0 st (.lit 32)) (.lit 0)
def wrongR (x : E) (d : List E) (t st s r : E) : List Rule := [⟨[(lt0 t (nowE x), true)], [(okF0 x d t, false)]⟩, ⟨[(lt0 (.lit 1125899906842624) t, true)], [(okF0 x d t, false)]⟩, ⟨[(sameE s r, true)], [(okF0 x d t, false)]⟩, ⟨[(lt0 st (.lit 32), false)], [(okF0 x d t, false)]⟩,
  ⟨[(lt0 t (nowE x), false), (lt0 (.lit 1125899906842624) t, false), (sameE s r, false), (lt0 st (.lit 32), true)], [(okF0 x d t, true)]⟩,
  ⟨[(eq0 (.lit 0) (ge32 st), false)], [(okF0 x d t, false)]⟩,
  ⟨[(lt0 t (nowE x), false), (lt0 (.lit 1125899906842624) t, false), (sameE s r, false), (eq0 (.lit 1) (ge32 st), false)], [(okF0 x d t, true)]⟩]
theorem bad_iff (s : FS) (d : List Int) (t : Int) : bad s d t = 0 ↔ ¬ (t < max 0 s.now ∨ maxSim < t ∨ d.getD 7 0 = d.getD 9 0 ∨ 32 ≤ d.getD 6 0) := by
  unfold bad
  by_cases c0 : t < 0 ∨ maxSim < t
  · rw [if_pos c0]
    refine ⟨fun h => (by cases h), fun h => absurd ?_ h⟩
    rcases c0 with c | c
    · exact .inl (by omega)
    · exact .inr (.inl c)
  · rw [if_neg c0]
    by_cases c1 : t < s.now
    · rw [if_pos c1]
      exact ⟨fun h => (by cases h), fun h => absurd (.inl (by omega)) h⟩
    · rw [if_neg c1]
      by_cases c2 : d.getD 7 0 = d.getD 9 0
      · rw [if_pos c2]
        exact ⟨fun h => (by cases h), fun h => absurd (.inr (.inr (.inl c2))) h⟩
      · rw [if_neg c2]
        by_cases c3 : 32 ≤ d.getD 6 0
        · rw [if_pos c3]
          exact ⟨fun h => (by cases h), fun h => absurd (.inr (.inr (.inr c3))) h⟩
        · rw [if_neg c3]
          refine ⟨fun _ => ?_, fun _ => rfl⟩
          rintro (h | h | h | h)
          · omega
          · exact c0 (.inr h)
          · exact c2 h
          · exact c3 h
section
variable {ρ : Env}
theorem fsOk_one {c : E} {b : Bool} : SX.FsOk ρ [(c, b)] ↔ (c.ev ρ ≠ 0 ↔ b = true) := by rw [fsOk_cons, fsOk_nil]; exact ⟨fun h => h.1, fun h => ⟨h, trivial⟩⟩
theorem tru {p : Prop} : (p ↔ true = true) ↔ p := ⟨fun h => h.2 rfl, fun h => ⟨fun _ => rfl, fun _ => h⟩⟩
theorem fls {p : Prop} : (p ↔ false = true) ↔ ¬ p := ⟨fun h hp => Bool.noConfusion (h.1 hp), fun h => ⟨fun hp => absurd hp h, fun e => Bool.noConfusion e⟩⟩
theorem okF0_ev (hf : ρ.fn = FN) {x t : E} {d : List E} (h : d.length = 11) : (okF0 x d t).ev ρ ≠ 0 ↔ bad (dec (x.ev ρ)) (E.evs ρ d) (t.ev ρ) = 0 := by
  unfold okF0 eq0
  rw [eqk_ev, badE_ev hf h]; rfl
theorem hearR_ok (hf : ρ.fn = FN) {x t : E} {d : List E} (h : d.length = 11) : RuleOk ρ (hearR x d t) := by
  intro hp
  have hp : SX.FsOk ρ [(okF0 x d t, true)] := hp
  rw [fsOk_one, tru, okF0_ev hf h] at hp
  show SX.FsOk ρ [(eq0 _ _, true)]
  rw [fsOk_one, tru]
  unfold eq0
  rw [eqk_ev, nowE_ev hf, hearE_ev hf h, dec_code, hear_ok hp]
  obtain ⟨b1, b2, b3, b4⟩ := bad_zero hp
  show max 0 (t.ev ρ) = _
  omega
theorem ge32_ev (st : E) : (ge32 st).ev ρ = if st.ev ρ < 32 then 0 else 1 := by
  show (if (if st.ev ρ < 32 then (1 : Int) else 0) = 0 then (1 : Int) else 0) = _
  split <;> simp
theorem wrongR_ok (hf : ρ.fn = FN) {x t st s r : E} {d : List E} (h : d.length = 11) (h6 : (E.evs ρ d).getD 6 0 = st.ev ρ) (h7 : (E.evs ρ d).getD 7 0 = s.ev ρ) (h9 : (E.evs ρ d).getD 9 0 = r.ev ρ) : ∀ q ∈ wrongR x d t st s r, RuleOk ρ q := by
  have key := bad_iff (dec (x.ev ρ)) (E.evs ρ d) (t.ev ρ)
  rw [h6, h7, h9] at key
  unfold maxSim at key
  have en := nowE_ev hf x
  have e1 : (lt0 t (nowE x)).ev ρ ≠ 0 ↔ t.ev ρ < max 0 (dec (x.ev ρ)).now := by rw [lt0_ev, en]
  have e2 : (lt0 (.lit 1125899906842624) t).ev ρ ≠ 0 ↔ 1125899906842624 < t.ev ρ := lt0_ev _ _
  have e3 : (sameE s r).ev ρ ≠ 0 ↔ s.ev ρ = r.ev ρ := eqk_ev _ _ _
  have e4 : (lt0 st (.lit 32)).ev ρ ≠ 0 ↔ st.ev ρ < 32 := lt0_ev _ _
  have e5 : (eq0 (.lit 0) (ge32 st)).ev ρ ≠ 0 ↔ st.ev ρ < 32 := by
    unfold eq0
    rw [eqk_ev, ge32_ev, lit_ev]
    split <;> simp <;> omega
  have e6 : (eq0 (.lit 1) (ge32 st)).ev ρ ≠ 0 ↔ ¬ st.ev ρ < 32 := by
    unfold eq0
    rw [eqk_ev, ge32_ev, lit_ev]
    split <;> simp <;> omega
  have e0 := okF0_ev hf (x := x) (t := t) h
  intro q hq
  simp only [wrongR, List.mem_cons, List.not_mem_nil, or_false] at hq
  rcases hq with rfl | rfl | rfl | rfl | rfl | rfl | rfl <;> simp only [RuleOk, fsOk_cons, fsOk_nil, iff_true, Bool.false_eq_true, iff_false, and_true, e0, e1, e2, e3, e4, e5, e6, key]
  · exact fun a b => b (.inl a)
  · exact fun a b => b (.inr (.inl a))
  · exact fun a b => b (.inr (.inr (.inl a)))
  · exact fun a b => b (.inr (.inr (.inr (by omega))))
  · rintro ⟨a1, a2, a3, a4⟩ (b | b | b | b)
    · exact a1 b
    · exact a2 b
    · exact a3 b
    · omega
  · exact fun a b => b (.inr (.inr (.inr (by omega))))
  · rintro ⟨a1, a2, a3, a4⟩ (b | b | b | b)
    · exact a1 b
    · exact a2 b
    · exact a3 b
    · exact a4 (by omega)
theorem newR_ok (hf : ρ.fn = FN) (a b : E) : RuleOk ρ ⟨[], [(eq0 (nowE (newE a b)) (.lit 0), true)]⟩ := fun _ => by
  rw [fsOk_one, tru]
  unfold eq0
  rw [eqk_ev, nowE_ev hf, newE_ev hf, dec_code]
  rfl
end
end Go.Proofs.YtbjficjcgpgcbaaDoor
