/- Layer 35: rules of records that may be; and of silence. -/
import Derived.Test.YtbjficjcgpgcbaaDoorFv
namespace Go.Proofs.YtbjficjcgpgcbaaDoor
open Go Go.RowKit SX Frm Frn
set_option linter.unusedVariables false
set_option linter.unusedSimpArgs false

def one1 (e : E) : E := eq0 e (.lit 1)
/-- What a message leaves as it is. -/
def goodR (x : E) (d : List E) (t win need : E) : List Rule := [⟨[(okF0 x d t, true), (one1 (goodE x), true)], [(one1 (goodE (hearE x d t)), true), (lt0 (nowE (hearE x d t)) (.lit 0), false), (lt0 (.lit 1125899906842624) (nowE (hearE x d t)), false)]⟩,
  ⟨[(eq0 (winE x) win, true)], [(eq0 (winE (hearE x d t)) win, true)]⟩, ⟨[(eq0 (needE x) need, true)], [(eq0 (needE (hearE x d t)) need, true)]⟩,
  ⟨[(okF0 x d t, true), (one1 (goodE x), true)], [(lt0 t (.lit 0), false), (lt0 (.lit 1125899906842624) t, false)]⟩]
def recF (x win need : E) : Fs := [(lt0 win (.lit 1), false), (lt0 (.lit 1125899906842624) win, false), (one1 (goodE x), true), (eq0 (winE x) win, true), (eq0 (needE x) need, true), (lt0 (nowE x) (.lit 0), false), (lt0 (.lit 1125899906842624) (nowE x), false)]
def newRs (a b : E) : List Rule := [⟨[], [(eq0 (nowE (newE a b)) (.lit 0), true)]⟩, ⟨[], [(eq0 (winE (newE a b)) a, true), (eq0 (needE (newE a b)) b, true)]⟩,
  ⟨[(lt0 a (.lit 1), false), (lt0 (.lit 1125899906842624) a, false), (lt0 b (.lit 1), false), (lt0 (.lit 8) b, false)], [(one1 (goodE (newE a b)), true)]⟩]
def silent (x win t : E) : Rule := ⟨[(one1 (goodE x), true), (eq0 (winE x) win, true)], [(eq0 (qnE x t) (.lit 0), true), (eq0 (bokE x t) (.lit 0), true), (eq0 (goneE x t) (lenE x), true), (eq0 (lenE (forgE x t)) (.lit 0), true), (eq0 (qnE (forgE x t) (nowE x)) (.lit 0), true)]⟩
section
variable {ρ : Env}
theorem good_ev (hf : ρ.fn = FN) (x : E) : (one1 (goodE x)).ev ρ ≠ 0 ↔ RsOk (dec (x.ev ρ)) := by
  unfold one1 eq0
  rw [eqk_ev]
  show ρ.fn 51 0 [x.ev ρ] = 1 ↔ _
  rw [hf]
  show goodN (x.ev ρ) = 1 ↔ _
  unfold goodN
  split <;> simp [*]
theorem rd_wf (f : Nat) (i : E) : (Lit.int (kOf f) ((E.rd 0 f i).ev ρ)).wf = true := wf_wrap (kOf f) _
theorem rd_fits (i : E) : fitsK ks11 (E.evs ρ (rdD i)) := by
  have n : ∀ (a : Int) (l : List Int), a :: l ≠ [] := fun _ _ h => nomatch h
  exact ⟨rd_wf 19 i, n _ _, rd_wf 27 i, n _ _, rd_wf 35 i, n _ _, rd_wf 43 i, n _ _, rd_wf 51 i, n _ _, rd_wf 63 i, n _ _, rd_wf 67 i, n _ _, rd_wf 79 i, n _ _, rd_wf 83 i, n _ _, rd_wf 95 i, n _ _, rd_wf 99 i, n _ _, rfl⟩
theorem hear_win (s : FS) (d : List Int) (t : Int) : (hear s d t).win = s.win ∧ (hear s d t).need = s.need := by
  unfold hear
  split <;> exact ⟨rfl, rfl⟩
theorem goodR_ok (hf : ρ.fn = FN) {x i win need : E} : ∀ q ∈ goodR x (rdD i) (rdAt i) win need, RuleOk ρ q := by
  have e0 := okF0_ev hf (x := x) (t := rdAt i) (d := rdD i) rfl
  have eh := hearE_ev hf (x := x) (t := rdAt i) (d := rdD i) rfl
  have g0 := good_ev hf x
  have g1 := good_ev hf (hearE x (rdD i) (rdAt i))
  rw [eh, dec_code] at g1
  have w0 : (eq0 (winE x) win).ev ρ ≠ 0 ↔ (dec (x.ev ρ)).win = win.ev ρ := by unfold eq0; rw [eqk_ev, winE_ev hf]
  have w1 : (eq0 (winE (hearE x (rdD i) (rdAt i))) win).ev ρ ≠ 0 ↔ (dec (x.ev ρ)).win = win.ev ρ := by unfold eq0; rw [eqk_ev, winE_ev hf, eh, dec_code, (hear_win _ _ _).1]
  have m0 : (eq0 (needE x) need).ev ρ ≠ 0 ↔ (dec (x.ev ρ)).need = need.ev ρ := by unfold eq0; rw [eqk_ev, needE_ev hf]
  have m1 : (eq0 (needE (hearE x (rdD i) (rdAt i))) need).ev ρ ≠ 0 ↔ (dec (x.ev ρ)).need = need.ev ρ := by unfold eq0; rw [eqk_ev, needE_ev hf, eh, dec_code, (hear_win _ _ _).2]
  have n1 : (lt0 (nowE (hearE x (rdD i) (rdAt i))) (.lit 0)).ev ρ ≠ 0 ↔ max 0 (hear (dec (x.ev ρ)) (E.evs ρ (rdD i)) ((rdAt i).ev ρ)).now < 0 := by rw [lt0_ev, nowE_ev hf, eh, dec_code, lit_ev]
  have n2 : (lt0 (.lit 1125899906842624) (nowE (hearE x (rdD i) (rdAt i)))).ev ρ ≠ 0 ↔ 1125899906842624 < max 0 (hear (dec (x.ev ρ)) (E.evs ρ (rdD i)) ((rdAt i).ev ρ)).now := by rw [lt0_ev, nowE_ev hf, eh, dec_code, lit_ev]
  have t1 : (lt0 (rdAt i) (.lit 0)).ev ρ ≠ 0 ↔ (rdAt i).ev ρ < 0 := by rw [lt0_ev, lit_ev]
  have t2 : (lt0 (.lit 1125899906842624) (rdAt i)).ev ρ ≠ 0 ↔ 1125899906842624 < (rdAt i).ev ρ := by rw [lt0_ev, lit_ev]
  intro q hq
  simp only [goodR, List.mem_cons, List.not_mem_nil, or_false] at hq
  rcases hq with rfl | rfl | rfl | rfl <;> simp only [RuleOk, fsOk_cons, fsOk_nil, iff_true, Bool.false_eq_true, iff_false, and_true, e0, g0, g1, w0, w1, m0, m1, n1, n2, t1, t2]
  · rintro ⟨a, b⟩
    have h := rsOk_hear b (rd_fits (ρ := ρ) i) ((rdAt i).ev ρ)
    have h2 := h.now
    unfold maxSim at h2
    exact ⟨h, by omega, by omega⟩
  · exact id
  · exact id
  · rintro ⟨a, b⟩
    have h2 := (bad_zero a).1
    unfold maxSim at h2
    exact ⟨by omega, by omega⟩
theorem newRs_ok (hf : ρ.fn = FN) {a b : E} : ∀ q ∈ newRs a b, RuleOk ρ q := by
  have en := newE_ev hf a b
  have g1 := good_ev hf (newE a b)
  rw [en, dec_code] at g1
  have w1 : (eq0 (winE (newE a b)) a).ev ρ ≠ 0 ↔ True := by unfold eq0; rw [eqk_ev, winE_ev hf, en, dec_code]; exact ⟨fun _ => trivial, fun _ => rfl⟩
  have m1 : (eq0 (needE (newE a b)) b).ev ρ ≠ 0 ↔ True := by unfold eq0; rw [eqk_ev, needE_ev hf, en, dec_code]; exact ⟨fun _ => trivial, fun _ => rfl⟩
  have l1 : (lt0 a (.lit 1)).ev ρ ≠ 0 ↔ a.ev ρ < 1 := by rw [lt0_ev, lit_ev]
  have l2 : (lt0 (.lit 1125899906842624) a).ev ρ ≠ 0 ↔ 1125899906842624 < a.ev ρ := by rw [lt0_ev, lit_ev]
  have l3 : (lt0 b (.lit 1)).ev ρ ≠ 0 ↔ b.ev ρ < 1 := by rw [lt0_ev, lit_ev]
  have l4 : (lt0 (.lit 8) b).ev ρ ≠ 0 ↔ 8 < b.ev ρ := by rw [lt0_ev, lit_ev]
  intro q hq
  simp only [newRs, List.mem_cons, List.not_mem_nil, or_false] at hq
  rcases hq with rfl | rfl | rfl
  · exact newR_ok hf a b
  · simp only [RuleOk, fsOk_cons, fsOk_nil, iff_true, and_true, w1, m1, implies_true]
  · simp only [RuleOk, fsOk_cons, fsOk_nil, iff_true, Bool.false_eq_true, iff_false, and_true, g1, l1, l2, l3, l4]
    rintro ⟨a1, a2, a3, a4⟩
    exact newS_ok ⟨by omega, by unfold maxSim; omega⟩ ⟨by omega, by omega⟩
theorem still_recent {s : FS} (hs : RsOk s) {r : List Msg} (hr : r ∈ s.l) {t : Int} (ht : s.now + s.win ≤ t) : recent s t r = 0 := by
  unfold recent
  rw [List.length_eq_zero_iff, List.filter_eq_nil_iff]
  intro m hm
  have h := (hs.msgs r hr m hm).hi
  have := hs.win
  unfold isNew
  rw [decide_eq_true_iff]
  omega
theorem still_qual {s : FS} (hs : RsOk s) {t : Int} (ht : s.now + s.win ≤ t) : qual s t = [] ∧ kept s t = [] := by
  have hn := hs.need
  refine ⟨?_, ?_⟩
  · unfold qual quals
    rw [List.map_eq_nil_iff, List.filter_eq_nil_iff]
    intro r hr
    rw [still_recent hs hr ht, decide_eq_true_iff]
    omega
  · unfold kept
    rw [List.filter_eq_nil_iff]
    intro r hr
    rw [still_recent hs hr ht, decide_eq_true_iff]
    omega
theorem silent_ok (hf : ρ.fn = FN) {x win : E} : RuleOk ρ (silent x win (.bin .zadd .i64 win (nowE x))) := by
  have g0 := good_ev hf x
  have w0 : (eq0 (winE x) win).ev ρ ≠ 0 ↔ (dec (x.ev ρ)).win = win.ev ρ := by unfold eq0; rw [eqk_ev, winE_ev hf]
  intro hp
  have hp : SX.FsOk ρ [(one1 (goodE x), true), (eq0 (winE x) win, true)] := hp
  simp only [fsOk_cons, fsOk_nil, iff_true, and_true, g0, w0] at hp
  obtain ⟨hs, hw⟩ := hp
  have hn := hs.now
  have ht : (E.bin .zadd .i64 win (nowE x)).ev ρ = win.ev ρ + (dec (x.ev ρ)).now := by
    show win.ev ρ + (nowE x).ev ρ = _
    rw [nowE_ev hf]
    omega
  obtain ⟨h1, h2⟩ := still_qual hs (t := win.ev ρ + (dec (x.ev ρ)).now) (by omega)
  show SX.FsOk ρ [(eq0 _ _, true), (eq0 _ _, true), (eq0 _ _, true), (eq0 _ _, true), (eq0 _ _, true)]
  simp only [fsOk_cons, fsOk_nil, iff_true, and_true]
  unfold eq0
  simp only [eqk_ev, lit_ev]
  refine ⟨?_, ?_, ?_, ?_, ?_⟩
  · rw [qnE_ev hf, ht, h1]; rfl
  · have := bokE_ev hf x (.bin .zadd .i64 win (nowE x))
    rw [ht, h1] at this
    by_cases h : (bokE x (.bin .zadd .i64 win (nowE x))).ev ρ = 0
    · exact h
    · exact absurd rfl (this.1 h)
  · rw [goneE_ev hf, lenE_ev hf, ht]
    unfold gone
    rw [h2]
    simp
  · rw [lenE_ev hf, forgE_ev hf, dec_code, ht]
    unfold forget
    rw [h2]; rfl
  · rw [qnE_ev hf, forgE_ev hf, dec_code, ht]
    unfold forget
    rw [h2]; rfl
end
end Go.Proofs.YtbjficjcgpgcbaaDoor
