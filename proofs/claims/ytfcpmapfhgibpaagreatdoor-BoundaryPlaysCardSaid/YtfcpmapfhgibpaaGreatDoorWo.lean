/- Decided, new exchanges, dataset.Of. -/
import Derived.Test.YtfcpmapfhgibpaaGreatDoorWi
import Derived.Test.YtfcpmapfhgibpaaGreatDoorWn
import Derived.Test.YtfcpmapfhgibpaaGreatDoorWm
set_option linter.unusedVariables false
set_option linter.unusedSimpArgs false
set_option maxRecDepth 1000000
namespace Go.Proofs.YtfcpmapfhgibpaaGreatDoor
noncomputable section
section
open Go Go.RowKit SX
section
variable {ρ : Env} {w0 w w' : World} {M : Nat -> Prop} {β : Bm} {hp : Hp}
theorem goes_all {t : T Out} {p : Out -> Bool} {K : Value -> World -> Prop} (h : t.all p = true)
  (hk : ∀ o, p o = true -> ∀ (β' : Bm) (w' : World), Ext hp.n β β' -> hp.n <= o.hp.n -> Stay hp o.hp -> Heap ρ w0 M β' o.hp w' -> SX.FsOk ρ o.fs -> o.v.ok ρ o.hp.n -> K (o.v.ev ρ β') w') : Goes ρ w0 M β hp t K :=
 T.holds_mono hk (T.all_holds h)
theorem Heap.wrote {k : Nat} {c c' : Bx} (h : Heap ρ w0 M β hp w) (hk : hp.at k = some ⟨true, c⟩) (hv : c.live = true) (hok : c'.ok ρ hp.n) (hl : c'.lies ρ β (β k) w') (h3 : Kept w (fun i => i = (β k).1) w') (ha : c'.isArr = false := by rfl) (hao : c'.isObj = false := by rfl) :
  Heap ρ w0 M β (hp.put k ⟨true, c'⟩) w' := by
 have hlt := Hp.at_lt hk
 have cases_ : ∀ (j : Nat) (x : Box), (hp.put k ⟨true, c'⟩).at j = some x -> (j ≠ k /\ hp.at j = some x) \/ (j = k /\ x = ⟨true, c'⟩) := fun j x hj => by
  by_cases he : j = k
  ·subst he; rw [Hp.at_put_same _ hlt] at hj; exact .inr ⟨rfl, (sinj hj).symm⟩
  ·rw [Hp.at_put_ne _ he] at hj; exact .inl ⟨he, hj⟩
 refine ⟨fun j x hj => ?_, fun i j x y hi hj hx hy e => ?_, fun j x hj hrw hx => ?_, fun j x hj => ?_, ?_, fun j x hj hax => ?_, h.objs.imp fun φ ho => ho.to (fun j x hj hx => ?_) (fun j x hj hx => ?_) (fun j x i hj hx hi => h3.block i (ho.lt hj hx hi) fun e => (ho.apart j k x _ hj hk hx (fun e => ?_) i hi).1 hv e.symm)⟩
 ·rcases cases_ j x hj with ⟨hne, hj'⟩ | ⟨rfl, rfl⟩
  ·cases hx : x.c.live with
   | false =>
    cases hax : x.c.isArr with
    | false => exact Bx.not_live hx hax (h.lies j x hj')
    | true =>
     obtain ⟨a1, a2⟩ := h.arrs j x hj' hax; refine Bx.lies_block (h3.block _ (Nat.lt_of_lt_of_le a1 h.kept.size) fun e => ?_) (h.lies j x hj')
     rcases h.mine k _ hk rfl hv with h1 | h1
     ·exact a2 (e ▸ h1)
     ·omega
   | true => exact Bx.lies_block (h3.block _ (Bx.lies_lt (h.lies j x hj') hx) fun e => hne (h.inj j k x _ hj' hk hx hv e)) (h.lies j x hj')
  ·exact hl
 ·rcases cases_ i x hi with ⟨hne, hi'⟩ | ⟨rfl, rfl⟩ <;> rcases cases_ j y hj with ⟨hne', hj'⟩ | ⟨rfl, rfl⟩
  ·exact h.inj i j x y hi' hj' hx hy e
  ·exact h.inj i j x _ hi' hk hx hv e
  ·exact h.inj i j _ y hk hj' hv hy e
  ·rfl
 ·rcases cases_ j x hj with ⟨hne, hj'⟩ | ⟨rfl, rfl⟩
  ·exact h.mine j x hj' hrw hx
  ·exact h.mine j _ hk rfl hv
 ·simp only [Hp.n_put]
  rcases cases_ j x hj with ⟨hne, hj'⟩ | ⟨rfl, rfl⟩
  ·exact h.good j x hj'
  ·exact hok
 ·refine ⟨h3.os.trans h.kept.os, h3.tape.trans h.kept.tape, h3.output.trans h.kept.output, Nat.le_trans h.kept.size h3.size, fun i hi hm => ?_⟩
  rw [h3.block i (Nat.lt_of_lt_of_le hi h.kept.size) fun e => ?_]
  ·exact h.kept.block i hi hm
  ·rcases h.mine k _ hk rfl hv with h1 | h1
   ·exact hm (e ▸ h1)
   ·omega
 ·rcases cases_ j x hj with ⟨hne, hj'⟩ | ⟨rfl, rfl⟩
  ·exact h.arrs j x hj' hax
  ·simp only at hax; rw [ha] at hax; cases hax
 ·rcases cases_ j x hj with ⟨hne, hj'⟩ | ⟨rfl, rfl⟩
  ·exact ⟨x, hj', rfl, rfl⟩
  ·simp only at hx; rw [hao] at hx; cases hx
 ·rcases cases_ j x hj with ⟨hne, hj'⟩ | ⟨rfl, rfl⟩
  ·exact .inl ⟨j, x, hj', hx, rfl⟩
  ·exact .inl ⟨j, _, hk, hv, rfl⟩
 ·subst e
  rw [hk] at hj; obtain rfl := sinj hj; rw [Bx.obj_dead hx] at hv; cases hv
theorem Heap.newBox (h : Heap ρ w0 M β hp w) (hb : Below w.heap.size w w') {bv : Nat × Nat} (hn : w.heap.size <= bv.1) {b : Bx} (hok : b.ok ρ (hp.n + 1)) (hl : b.lies ρ (upd β hp.n bv) bv w') (ha : b.isArr = false := by rfl) (hao : b.isObj = false := by rfl) :
  Heap ρ w0 M (upd β hp.n bv) (hp.push ⟨true, b⟩) w' :=
 (h.below hb).push (fun j b' hj hv e => by
  have := Bx.lies_lt (h.lies j b' hj) hv; omega) (.inr (Nat.le_trans h.kept.size hn)) hok hl (h.objs_new hb hn hao) ha
end
end
section
open Go Go.RowKit SX Frm Frn
def decI0 (ns : List Int) : Int :=
 if ns.getD 3 0 ≠ 0 \/ ns.getD 0 0 ≠ 4 then PortLaw.nxt (ns.getD 0 0) (IntKind.i64.wrap (20 + ns.getD 2 0)) (decide (ns.getD 4 0 ≠ 0))
 else if IntKind.i64.wrap (ns.getD 5 0 - ns.getD 1 0) < ns.getD 6 0 then ns.getD 0 0 else PortLaw.nxt (ns.getD 0 0) 7 (decide (ns.getD 4 0 ≠ 0))
def decI1 (ns : List Int) : Int := if decI0 ns = 5 then PortLaw.nxt (decI0 ns) 8 (decide (ns.getD 4 0 ≠ 0)) else decI0 ns
def decI2 (ns : List Int) : Int := if decI1 ns = ns.getD 0 0 then ns.getD 1 0 else ns.getD 5 0
def decI (j : Nat) (ns : List Int) : Int := if j = 0 then decI0 ns else if j = 1 then decI1 ns else decI2 ns
def nm70 : Mng := fun f => if f = 70 then decI else nm69 f
theorem but70 : But 70 nm70 nm69 := fun f hf => if_neg hf
def decE (j : Nat) (l : List E) : E := .app 70 j l
def decL0 : List E := [.var 0, .var 1, .var 2, .var 3, .var 4, .var 5, .var 6]
def decN1 : E := nextE (.var 0) (.bin .add .i64 (.lit 20) (.var 2)) (.var 4)
def decN2 : E := nextE (.var 0) (.lit 7) (.var 4)
def decQ (n : E) : E := nextE n (.lit 8) (.var 4)
def decP (k : Nat) : Fs := match k with
 | 0 => [(.var 3, true)]
 | 1 => [(.var 3, false), (eq0 (.var 0) (.lit 4), false)]
 | _ => [(.var 3, false), (eq0 (.var 0) (.lit 4), true), (lt0 (.bin .sub .i64 (.var 5) (.var 1)) (.var 6), false)]
def decP3 : Fs := [(.var 3, false), (eq0 (.var 0) (.lit 4), true), (lt0 (.bin .sub .i64 (.var 5) (.var 1)) (.var 6), true)]
def decN (k : Nat) : E := match k with
 | 0 => decN1
 | 1 => decN1
 | _ => decN2
def decR1 (k : Nat) : List Rule :=
 [⟨decP k ++ [(eq0 (decN k) (.lit 5), true)], [(eq0 (decE 1 decL0) (decQ (decN k)), true)]⟩, ⟨decP k ++ [(eq0 (decN k) (.lit 5), false)], [(eq0 (decE 1 decL0) (decN k), true)]⟩,
  ⟨decP k ++ [(eq0 (decN k) (.lit 5), true), (eq0 (decQ (decN k)) (.var 0), true)], [(eq0 (decE 2 decL0) (.var 1), true)]⟩, ⟨decP k ++ [(eq0 (decN k) (.lit 5), true), (eq0 (decQ (decN k)) (.var 0), false)], [(eq0 (decE 2 decL0) (.var 5), true)]⟩,
  ⟨decP k ++ [(eq0 (decN k) (.lit 5), false), (eq0 (decN k) (.var 0), true)], [(eq0 (decE 2 decL0) (.var 1), true)]⟩, ⟨decP k ++ [(eq0 (decN k) (.lit 5), false), (eq0 (decN k) (.var 0), false)], [(eq0 (decE 2 decL0) (.var 5), true)]⟩]
def decRules : List Rule := decR1 0 ++ (decR1 1 ++ (decR1 2 ++ [⟨decP3, [(eq0 (decE 1 decL0) (.var 0), true)]⟩, ⟨decP3, [(eq0 (decE 2 decL0) (.var 1), true)]⟩]))
section
variable {ρ : Env}
theorem eq0_ev (a b : E) : (eq0 a b).ev ρ ≠ 0 ↔ a.ev ρ = b.ev ρ := eqk_ev .i64 a b
theorem decE_ev (h70 : ρ.fn 70 = decI) (j : Nat) (l : List E) : (decE j l).ev ρ = decI j (E.evs ρ l) := by
 show ρ.fn 70 j _ = _; rw [h70]
theorem decN1_ev (h69 : ρ.fn 69 = nm69 69) : decN1.ev ρ = PortLaw.nxt (ρ.v 0) (IntKind.i64.wrap (20 + ρ.v 2)) (decide (ρ.v 4 ≠ 0)) := nextE_ev h69 _ _ _
theorem decN2_ev (h69 : ρ.fn 69 = nm69 69) : decN2.ev ρ = PortLaw.nxt (ρ.v 0) 7 (decide (ρ.v 4 ≠ 0)) := nextE_ev h69 _ _ _
theorem decQ_ev (h69 : ρ.fn 69 = nm69 69) (n : E) : (decQ n).ev ρ = PortLaw.nxt (n.ev ρ) 8 (decide (ρ.v 4 ≠ 0)) := nextE_ev h69 _ _ _
theorem fsOk_apps {a b : Fs} : SX.FsOk ρ (a ++ b) ↔ SX.FsOk ρ a /\ SX.FsOk ρ b :=
 ⟨fun h => ⟨fun p hp => h p (List.mem_append_left _ hp), fun p hp => h p (List.mem_append_right _ hp)⟩, fun h => SX.fsOk_app h.1 h.2⟩
theorem dec_ns (a b c d e f g : Int) : decI0 [a, b, c, d, e, f, g] = if d ≠ 0 \/ a ≠ 4 then PortLaw.nxt a (IntKind.i64.wrap (20 + c)) (decide (e ≠ 0)) else if IntKind.i64.wrap (f - b) < g then a else PortLaw.nxt a 7 (decide (e ≠ 0)) := rfl
theorem decP_ok (h69 : ρ.fn 69 = nm69 69) (k : Nat) (h : SX.FsOk ρ (decP k)) : decI0 (E.evs ρ decL0) = (decN k).ev ρ := by
 have hv : E.evs ρ decL0 = [ρ.v 0, ρ.v 1, ρ.v 2, ρ.v 3, ρ.v 4, ρ.v 5, ρ.v 6] := rfl; rw [hv, dec_ns]
 match k with
 | 0 =>
  simp only [decP, fsOk_cons, fsOk_nil, and_true] at h; have h : ρ.v 3 ≠ 0 := h.2 trivial; show _ = decN1.ev ρ; rw [if_pos (.inl h), decN1_ev h69]
 | 1 =>
  simp only [decP, fsOk_cons, fsOk_nil, and_true, eq0_ev] at h; have h1 : ρ.v 0 ≠ 4 := fun c => Bool.noConfusion (h.2.1 c)
  show _ = decN1.ev ρ; rw [if_pos (.inr h1), decN1_ev h69]
 | k + 2 =>
  simp only [decP, fsOk_cons, fsOk_nil, and_true, eq0_ev, lt0_ev] at h; obtain ⟨h1, h2, h3⟩ := h; have h1 : ρ.v 3 = 0 := Decidable.not_not.1 fun c => Bool.noConfusion (h1.1 c)
  have h2 : ρ.v 0 = 4 := h2.2 trivial; have h3 : ¬ IntKind.i64.wrap (ρ.v 5 - ρ.v 1) < ρ.v 6 := fun c => Bool.noConfusion (h3.1 c)
  show _ = decN2.ev ρ; rw [if_neg (fun c => c.elim (fun c => c h1) (fun c => c h2)), if_neg h3, decN2_ev h69]
theorem decP3_ok (h : SX.FsOk ρ decP3) : decI0 (E.evs ρ decL0) = ρ.v 0 /\ ρ.v 0 = 4 := by
 have hv : E.evs ρ decL0 = [ρ.v 0, ρ.v 1, ρ.v 2, ρ.v 3, ρ.v 4, ρ.v 5, ρ.v 6] := rfl; rw [hv, dec_ns]; simp only [decP3, fsOk_cons, fsOk_nil, and_true, eq0_ev, lt0_ev] at h; obtain ⟨h1, h2, h3⟩ := h; have h1 : ρ.v 3 = 0 := Decidable.not_not.1 fun c => Bool.noConfusion (h1.1 c)
 have h2 : ρ.v 0 = 4 := h2.2 trivial; have h3 : IntKind.i64.wrap (ρ.v 5 - ρ.v 1) < ρ.v 6 := h3.2 trivial; rw [if_neg (fun c => c.elim (fun c => c h1) (fun c => c h2)), if_pos h3]
 exact ⟨rfl, h2⟩
theorem decR1_ok (h69 : ρ.fn 69 = nm69 69) (h70 : ρ.fn 70 = decI) (k : Nat) : ∀ r ∈ decR1 k, RuleOk ρ r := fun r hr => by
 have e1 := decE_ev h70 1 decL0; have e2 := decE_ev h70 2 decL0; have g0 : (E.evs ρ decL0).getD 0 0 = ρ.v 0 := rfl; have g1 : (E.evs ρ decL0).getD 1 0 = ρ.v 1 := rfl; have g4 : (E.evs ρ decL0).getD 4 0 = ρ.v 4 := rfl; have g5 : (E.evs ρ decL0).getD 5 0 = ρ.v 5 := rfl; have l5 : (E.lit 5).ev ρ = 5 := rfl; have v0 : (E.var 0).ev ρ = ρ.v 0 := rfl; have v1 : (E.var 1).ev ρ = ρ.v 1 := rfl; have v5 : (E.var 5).ev ρ = ρ.v 5 := rfl
 simp only [decR1, mCo, List.not_mem_nil, or_false] at hr
 rcases hr with rfl | rfl | rfl | rfl | rfl | rfl <;>
  simp only [RuleOk, fsOk_apps, fsOk_cons, fsOk_nil, and_true, eq0_ev, e1, e2, iff_true, Bool.false_eq_true, iff_false, l5, v0, v1, v5, decQ_ev h69] <;>
  intro h <;> have h0 := decP_ok h69 k h.1 <;> have h1 := h.2 <;>
  simp only [decI, decI1, decI2, h0, g0, g1, g4, g5] <;> grind
theorem decRules_ok (h69 : ρ.fn 69 = nm69 69) (h70 : ρ.fn 70 = decI) : ∀ r ∈ decRules, RuleOk ρ r := fun r hr => by
 have e1 := decE_ev h70 1 decL0; have e2 := decE_ev h70 2 decL0; simp only [decRules, List.mem_append, mCo, List.not_mem_nil, or_false] at hr; rcases hr with hr | hr | hr | rfl | rfl
 ·exact decR1_ok h69 h70 0 r hr
 ·exact decR1_ok h69 h70 1 r hr
 ·exact decR1_ok h69 h70 2 r hr
 all_goals
  intro h; obtain ⟨h1, h2⟩ := decP3_ok h; have g0 : (E.evs ρ decL0).getD 0 0 = ρ.v 0 := rfl; have g1 : (E.evs ρ decL0).getD 1 0 = ρ.v 1 := rfl; have v0 : (E.var 0).ev ρ = ρ.v 0 := rfl; have v1 : (E.var 1).ev ρ = ρ.v 1 := rfl; simp only [fsOk_cons, fsOk_nil, and_true, eq0_ev, iff_true, e1, e2, decI, decI1, decI2, h1, g0, g1, v0, v1]
  grind
end
def staCells (st : E) (p q : Nat) (an rq mk : E) : List SV := [.int .i64 st, .ptr p 0, .ptr q 0, .int .i64 an, .int .i64 rq, .int .i64 mk]
def staB (st : E) (p q : Nat) (an rq mk : E) : Bx := .cells (staCells st p q an rq mk) 77 0
def decHp : Hp := Hp.ofL [⟨true, staB (.var 0) 1 2 (.var 7) (.var 8) (.var 1)⟩, ⟨false, .gone⟩, ⟨false, .gone⟩]
def decWant : Bx := staB (decE 1 decL0) 1 2 (.var 7) (.var 8) (decE 2 decL0)
def isUnit (s : SV) : Bool := match s with
 | .tuple [] => true
 | _ => false
def decLeaf (o : Out) : Bool := isUnit o.v && match o.hp.at 0 with
 | some ⟨true, c⟩ => Bx.fit (addRules o.fs decRules) (fun i => .var i) id 3 decWant c
 | _ => false
def decArgs : List SV := [.ptr 0 0, .int .i64 (.var 2), .bool (.var 3), .bool (.var 4), .int .i64 (.var 5), .int .i64 (.var 6)]
def callD : Caller := callG Tryz.prog [] okF spNext noKeep 80 30
theorem dec_run : (callD 51 decArgs decHp []).all decLeaf = true := by kernel_rfl
def staParts : Bx -> Option (E × Nat × Nat × E × E × E)
 | .cells [.int .i64 st, .ptr p 0, .ptr q 0, .int .i64 an, .int .i64 rq, .int .i64 mk] ty 0 => if ty = 77 then some (st, p, q, an, rq, mk) else none
 | _ => none
theorem staParts_spec {c : Bx} {st an rq mk : E} {p q : Nat} (h : staParts c = some (st, p, q, an, rq, mk)) : c = staB st p q an rq mk := by
 unfold staParts at h; split at h
 ·split at h
  ·rename_i e
   cases h; rw [e]; rfl
  ·cases h
 ·cases h
def staOf (hp : Hp) (k : Nat) : Option (E × Nat × Nat × E × E × E) :=
 match hp.at k with
 | some ⟨true, c⟩ => staParts c
 | _ => none
theorem staOf_spec {hp : Hp} {k : Nat} {st an rq mk : E} {p q : Nat} (h : staOf hp k = some (st, p, q, an, rq, mk)) : hp.at k = some ⟨true, staB st p q an rq mk⟩ := by
 unfold staOf at h; split at h
 ·rename_i c hc
  rw [hc, staParts_spec h]
 ·cases h
def spDecided : Spc := fun f args hp fs => match args with
 | [.ptr k 0, .int .i64 c, .bool h, .bool s, .int .i64 t, .int .i64 o] => if f = 51 then (match staOf hp k with
  | some (st, p, q, an, rq, mk) => some ⟨.tuple [], hp.put k ⟨true, staB (decE 1 (canons fs [st, mk, c, h, s, t, o])) p q an rq (decE 2 (canons fs [st, mk, c, h, s, t, o]))⟩, fs⟩
  | none => none) else none
 | _ => none
theorem callD_ok {ρ : Env} {w0 : World} {M : Nat -> Prop} (h69 : ρ.fn 69 = nm69 69) (hT : ∀ w', Kept w0 M w' -> TabsIn tabs2 w') : CallOk Tryz.prog ρ w0 M [] callD :=
 callG_run mixed okF_ok (spNext_ok h69 hT) 30
theorem isUnit_spec {s : SV} (h : isUnit s = true) : s = .tuple [] := by
 unfold isUnit at h; split at h
 ·rfl
 ·cases h
theorem spDecided_ok {ρ : Env} {w0 : World} {M : Nat -> Prop} {gl : Gl} (h69 : ρ.fn 69 = nm69 69) (h70 : ρ.fn 70 = decI) (hT : ∀ w', Kept w0 M w' -> TabsIn tabs2 w') : SpecOk Tryz.prog ρ w0 M gl spDecided := fun f args hp fs o hs β w hh hfs ha hg => by
 unfold spDecided at hs; split at hs
 ·rename_i k c h s t to
  split at hs
  ·rename_i hf
   subst hf; split at hs
   ·rename_i st p q an rq mk hk
    obtain rfl := sinj hs; have hat := staOf_spec hk; have hgood := hh.good k _ hat; have hlies := hh.lies k _ hat; obtain ⟨g1, g2, g3, g4, g5, g6, _⟩ := hgood; obtain ⟨a1, a2, a3, a4, a5, a6, _⟩ := ha; have hmine : M (β k).1 \/ w0.heap.size <= (β k).1 := hh.mine k _ hat rfl rfl
    -- the call by itself
    let ns : List Int := [st.ev ρ, mk.ev ρ, c.ev ρ, h.ev ρ, s.ev ρ, t.ev ρ, to.ev ρ, an.ev ρ, rq.ev ρ]
    let β1 : Bm := fun j => if j = 0 then β k else if j = 1 then β p else β q
    have hb : ∀ (j : Nat) (x : Box), decHp.at j = some x -> (j = 0 /\ x = ⟨true, staB (.var 0) 1 2 (.var 7) (.var 8) (.var 1)⟩) \/ (x = ⟨false, .gone⟩ /\ j ≠ 0) := fun j x hj => by
     rw [decHp, ofL_at] at hj
     match j, hj with
     | 0, hj => exact .inl ⟨rfl, (sinj hj).symm⟩
     | 1, hj => exact .inr ⟨(sinj hj).symm, by omega⟩
     | 2, hj => exact .inr ⟨(sinj hj).symm, by omega⟩
     | j + 3, hj => cases hj
    have hh1 : Heap (envOf ρ.fn ns) w (fun i => i = (β k).1) β1 decHp w := by
     refine ⟨fun j x hj => ?_, fun i j x y hi hj hx hy e => ?_, fun j x hj hr hx => ?_, fun j x hj => ?_, Kept.refl _ _, fun j x hj hx => ?_, ObjsOk.none fun j x hj => ?_⟩
     ·rcases hb j x hj with ⟨rfl, rfl⟩ | ⟨rfl, _⟩
      ·exact hlies
      ·trivial
     ·rcases hb i x hi with ⟨rfl, rfl⟩ | ⟨rfl, _⟩
      ·rcases hb j y hj with ⟨rfl, rfl⟩ | ⟨rfl, _⟩
       ·rfl
       ·cases hy
      ·cases hx
     ·rcases hb j x hj with ⟨rfl, rfl⟩ | ⟨rfl, _⟩
      ·exact .inl rfl
      ·cases hx
     ·rcases hb j x hj with ⟨rfl, rfl⟩ | ⟨rfl, _⟩
      ·exact ⟨g1, by show 1 < 3; omega, by show 2 < 3; omega, g4, g5, g6, trivial⟩
      ·trivial
     ·rcases hb j x hj with ⟨rfl, rfl⟩ | ⟨rfl, _⟩ <;> cases hx
     ·rcases hb j x hj with ⟨rfl, rfl⟩ | ⟨rfl, _⟩ <;> rfl
    have hT1 : ∀ w', Kept w (fun i => i = (β k).1) w' -> TabsIn tabs2 w' := fun w' hk' => hT w' (Kept.nest hh.kept (fun i (hi : i = (β k).1) => by rw [hi]; exact hmine) hk')
    have hrules := decRules_ok (ρ := envOf ρ.fn ns) h69 h70; have hargs1 : SV.oks (envOf ρ.fn ns) 3 decArgs := ⟨show 0 < 3 by omega, a2, trivial, trivial, a5, a6, trivial⟩
    have hrun := (callD_ok (ρ := envOf ρ.fn ns) h69 hT1 51 decArgs decHp [] β1 w
     (fun v w' => v = .tuple #[] /\ (staB (decE 1 (canons fs [st, mk, c, h, s, t, to])) p q an rq (decE 2 (canons fs [st, mk, c, h, s, t, to]))).lies ρ β (β k) w' /\ Kept w (fun i => i = (β k).1) w' /\
      (Lit.int .i64 ((decE 1 (canons fs [st, mk, c, h, s, t, to])).ev ρ)).wf = true /\ (Lit.int .i64 ((decE 2 (canons fs [st, mk, c, h, s, t, to])).ev ρ)).wf = true)
     hh1 (fun p hp => by cases hp) hargs1 (fun p hp => by cases hp)
     (goes_all dec_run ?_)).2
    ·refine hrun.mono fun e w' ⟨v, he, hv, h1, h2, h3, h4⟩ => ⟨β, Ext.refl _ _, Nat.le_refl _, stay_put hat, Heap.wrote hh hat rfl ?_ h1 h2, hfs, trivial, ?_⟩
     ·exact ⟨h3, g2, g3, g4, g5, h4, trivial⟩
     ·rw [he, hv]; rfl
    ·intro o2 ho β' w' hx hle hst hh' hf' hv
     simp only [decLeaf, bAnd] at ho; obtain ⟨ho1, ho2⟩ := ho; split at ho2
     ·rename_i c2 hc2
      have hfa := addRules_ok hf' hrules; obtain ⟨f1, f2, _, _⟩ := Bx.fit_spec (ρ := envOf ρ.fn ns) (β := β') (w := w') (m := o2.hp.n) hfa ho2; rw [envSub_var] at f1 f2; have l1 := f1 _ (hh'.lies 0 _ hc2); have l2 := f2 (hh'.good 0 _ hc2); have e1 : β' 0 = β k := hx 0 (by show 0 < 3; omega)
      have e2 : β' 1 = β p := hx 1 (by show 1 < 3; omega)
      have e3 : β' 2 = β q := hx 2 (by show 2 < 3; omega)
      have hL : ∀ j, (decE j (canons fs [st, mk, c, h, s, t, to])).ev ρ = (decE j decL0).ev (envOf ρ.fn ns) := fun j => by
       show ρ.fn 70 j (E.evs ρ (canons fs _)) = ρ.fn 70 j _; rw [canons_ev hfs]; rfl
      refine ⟨by rw [isUnit_spec ho1]; rfl, ?_, hh'.kept, ?_, ?_⟩
      ·have l1 : w'.heap[(β' 0).1]? = _ := l1
       show w'.heap[(β k).1]? = _; rw [<- e1, l1]; simp only [SV.evs, SV.ev, staCells, hL]; rw [show β' (id 1) = β p from e2, show β' (id 2) = β q from e3]; rfl
      ·rw [hL]; exact l2.1
      ·rw [hL]; exact l2.2.2.2.2.2.1
     ·cases ho2
   ·cases hs
  ·cases hs
 ·cases hs
def exNew (d : Int) : Int := codL [0, d, 0, 0, 0, 0, 0, 0, 0, 0, 0, 0, 0, 0, 0, 0, 0]
def nmE : Nat -> List Int -> Int := fun _ ns => exNew (ns.headD 0)
def nm73 : Mng := fun f => if f = 73 then nmE else nm70 f
theorem but73 : But 73 nm73 nm70 := fun f hf => if_neg hf
def exNewE (d : E) : E := .app 73 0 [d]
def exNewF (d : E) : Fs := [(lt0 d (.lit 0), false), (lt0 (.lit 255) d, false)]
def exEs : List E := [.var 0, .lit 0, .lit 0, .lit 0, .lit 0, .lit 0, .lit 0, .lit 0, .lit 0, .lit 0, .lit 0, .lit 0, .lit 0, .lit 0, .lit 0, .lit 0]
def exNewLeaf (o : Out) : Bool := makOk [] exA o && E.beqs ((List.range 16).map (makS [] exA o)) exEs
theorem exNew_run : (callG Tryz.prog [] okF noSpec noKeep 80 30 25 [.int .i64 (.var 0)] .nil (exNewF (.var 0))).all exNewLeaf = true := by kernel_rfl
theorem exNew_any {d : Int} (hd : 0 <= d /\ d <= 255) {w : World} : Calls Tryz.prog 25 #[.int .i64 d] w fun e w' => ∃ b φ, e = .returned (ptrV b) /\ Ob 3 [exNew d] b φ w' /\ (∀ i, φ i -> w.heap.size <= i) /\ Below w.heap.size w w' := by
 have h1 : (Lit.int .i64 d).wf = true := wfI (by omega)
 have hF : SX.FsOk (envOf FN [d]) (exNewF (.var 0)) := by
  have e0 : (E.var 0).ev (envOf FN [d]) = d := rfl; rw [exNewF, fsOk_cons, fsOk_cons, fsOk_nil, lt0_ev, lt0_ev, e0, lit_ev, lit_ev]; exact ⟨⟨fun h => by omega, fun h => Bool.noConfusion h⟩, ⟨fun h => by omega, fun h => Bool.noConfusion h⟩, trivial⟩
 refine ((callG_run (gl := []) (keep := noKeep) (fuel := 80) mixed okF_ok noSpec_ok 30 25 [.int .i64 (.var 0)] .nil (exNewF (.var 0)) β0 w
  (fun x w' => ∃ b φ, x = ptrV b /\ Ob 3 [exNew d] b φ w' /\ (∀ i, φ i -> w.heap.size <= i) /\ Below w.heap.size w w') (heap_nil _ _ (fun _ => False) _) hF ⟨h1, trivial⟩ (fun _ h => by cases h)
  (goes_all exNew_run fun o ho β' w' hx hl hst hh hf hv => ?_)).2).mono fun x w' ⟨y, he, b, φ, h1, h2⟩ => ⟨b, φ, by rw [he, h1], h2⟩
 simp only [exNewLeaf, bAnd] at ho; have hfam : exK.fam 0 = some exA := rfl; obtain ⟨b, φ, a1, a2, a3, a4⟩ := made_run exK_ok hfam (fun f hf => rfl) hh hf (fun r hr => by cases hr) hv ho.1
 refine ⟨b, φ, a1, ?_, a3, a4⟩
 have e : makNs [] exA o (envOf FN [d]) = [d, 0, 0, 0, 0, 0, 0, 0, 0, 0, 0, 0, 0, 0, 0, 0] := by
  have := congrArg (List.map fun e : E => e.ev (envOf FN [d])) (E.beqs_eq _ _ ho.2)
  rw [List.map_map] at this; exact this
 rw [e] at a2; exact a2
def spExNew : Spc := fun f args hp fs => match args with
 | [.int .i64 d] => if f = 25 then (if knows fs (exNewF (canon fs d)) = true then some ⟨.ptr hp.n 0, hp.push ⟨true, .obj 3 [exNewE (canon fs d)]⟩, fs⟩ else none) else none
 | _ => none
theorem spExNew_ok {ρ : Env} {w0 : World} {M : Nat -> Prop} {gl : Gl} (h73 : ρ.fn 73 = nmE) : SpecOk Tryz.prog ρ w0 M gl spExNew := fun f args hp fs o hs β w hh hfs ha hg => by
 unfold spExNew at hs; split at hs
 ·rename_i d
  split at hs
  ·rename_i hf
   subst hf; split at hs
   ·rename_i hk
    obtain rfl := sinj hs; have hkn := knows_ok hfs hk; have cd := canon_ev hfs d; rw [exNewF, fsOk_cons, fsOk_cons, fsOk_nil, lt0_ev, lt0_ev, cd, lit_ev, lit_ev] at hkn
    have hd : 0 <= d.ev ρ /\ d.ev ρ <= 255 := by
     have h1 := hkn.1; have h2 := hkn.2.1; simp only [Bool.false_eq_true, iff_false] at h1 h2; omega
    refine (exNew_any hd).mono fun e w' ⟨b, φ, he, hob, hφ, hb⟩ => ⟨upd β hp.n (b, 0), upd_ext _ _ _, by simp, Stay.push _ _, Heap.newObj hh hb (es := [exNewE (canon fs d)]) ?_ hφ, hfs, by show hp.n < _; simp, ?_⟩
    ·show Ob 3 [ρ.fn 73 0 [(canon fs d).ev ρ]] b φ w'
     rw [h73, cd]; exact hob
    ·rw [he]
     show _ = Ending.returned (Value.pointer (some ⟨(upd β hp.n (b, 0) hp.n).1, 0, none⟩)); rw [upd_same]; rfl
   ·cases hs
  ·cases hs
 ·cases hs
def exEsR : List E := .var 0 :: List.replicate 30 (.lit 0)
def exNewLeafR (o : Out) : Bool := makOk [] exAR o && E.beqs ((List.range 31).map (makS [] exAR o)) exEsR
theorem exNewR_run : (callG Tryz.prog [] okF noSpec noKeep 80 30 29 [.int .i64 (.var 0)] .nil (exNewF (.var 0))).all exNewLeafR = true := by kernel_rfl
theorem exNew_rel (d : Int) : ExRel (exNew d) (codL (((0 : Nat) : Int) :: d :: List.replicate 30 0)) := ⟨_, _, List.replicate 22 0, rfl, rfl, exJ0, lHd .., rfl, rfl, fun p hp => by
 obtain rfl := List.mem_singleton.1 hp; exact ⟨fun h => absurd rfl h, fun h => Bool.noConfusion h⟩⟩
theorem exNewR_any {d : Int} (hd : 0 <= d /\ d <= 255) {w : World} : Calls Tryz.prog 29 #[.int .i64 d] w fun e w' => ∃ b φ, e = .returned (ptrV b) /\ Ob 4 [exNew d] b φ w' /\ (∀ i, φ i -> w.heap.size <= i) /\ Below w.heap.size w w' := by
 have h1 : (Lit.int .i64 d).wf = true := wfI (by omega)
 have hF : SX.FsOk (envOf FN [d]) (exNewF (.var 0)) := by
  have e0 : (E.var 0).ev (envOf FN [d]) = d := rfl; rw [exNewF, fsOk_cons, fsOk_cons, fsOk_nil, lt0_ev, lt0_ev, e0, lit_ev, lit_ev]; exact ⟨⟨fun h => by omega, fun h => Bool.noConfusion h⟩, ⟨fun h => by omega, fun h => Bool.noConfusion h⟩, trivial⟩
 refine ((callG_run (gl := []) (keep := noKeep) (fuel := 80) mixed okF_ok noSpec_ok 30 29 [.int .i64 (.var 0)] .nil (exNewF (.var 0)) β0 w
  (fun x w' => ∃ b φ, x = ptrV b /\ Ob 4 [exNew d] b φ w' /\ (∀ i, φ i -> w.heap.size <= i) /\ Below w.heap.size w w') (heap_nil _ _ (fun _ => False) _) hF ⟨h1, trivial⟩ (fun _ h => by cases h)
  (goes_all exNewR_run fun o ho β' w' hx hl hst hh hf hv => ?_)).2).mono fun x w' ⟨y, he, b, φ, h1, h2⟩ => ⟨b, φ, by rw [he, h1], h2⟩
 simp only [exNewLeafR, bAnd] at ho; have hfam : exFamR 0 = some exAR := rfl
 obtain ⟨b, φ, a1, a2, a3, a4⟩ := made_lay (O := Ob1) (fam := exFamR) hfam (exFamR_ok 0 _ rfl) (fun k x q es hk e => by
  match k, hk with
  | 0, hk => obtain rfl := sinj hk; cases e
  | k + 1, hk => cases hk) (fun f hf => rfl) hh hf (fun r hr => by cases hr) hv ho.1
 refine ⟨b, φ, a1, ?_, a3, a4⟩
 have e : makNs [] exAR o (envOf FN [d]) = d :: List.replicate 30 0 := by
  have := congrArg (List.map fun e : E => e.ev (envOf FN [d])) (E.beqs_eq _ _ ho.2)
  rw [List.map_map] at this; exact this
 rw [e] at a2; exact ⟨_, _, rfl, exNew_rel d, a2⟩
def spExNewR : Spc := fun f args hp fs => match args with
 | [.int .i64 d] => if f = 29 then (if knows fs (exNewF (canon fs d)) = true then some ⟨.ptr hp.n 0, hp.push ⟨true, .obj 4 [exNewE (canon fs d)]⟩, fs⟩ else none) else none
 | _ => none
theorem spExNewR_ok {ρ : Env} {w0 : World} {M : Nat -> Prop} {gl : Gl} (h73 : ρ.fn 73 = nmE) : SpecOk Tryz.prog ρ w0 M gl spExNewR := fun f args hp fs o hs β w hh hfs ha hg => by
 unfold spExNewR at hs; split at hs
 ·rename_i d
  split at hs
  ·rename_i hf
   subst hf; split at hs
   ·rename_i hk
    obtain rfl := sinj hs; have hkn := knows_ok hfs hk; have cd := canon_ev hfs d; rw [exNewF, fsOk_cons, fsOk_cons, fsOk_nil, lt0_ev, lt0_ev, cd, lit_ev, lit_ev] at hkn
    have hd : 0 <= d.ev ρ /\ d.ev ρ <= 255 := by
     have h1 := hkn.1; have h2 := hkn.2.1; simp only [Bool.false_eq_true, iff_false] at h1 h2; omega
    refine (exNewR_any hd).mono fun e w' ⟨b, φ, he, hob, hφ, hb⟩ => ⟨upd β hp.n (b, 0), upd_ext _ _ _, by simp, Stay.push _ _, Heap.newObj hh hb (es := [exNewE (canon fs d)]) ?_ hφ, hfs, by show hp.n < _; simp, ?_⟩
    ·show Ob 4 [ρ.fn 73 0 [(canon fs d).ev ρ]] b φ w'
     rw [h73, cd]; exact hob
    ·rw [he]
     show _ = Ending.returned (Value.pointer (some ⟨(upd β hp.n (b, 0) hp.n).1, 0, none⟩)); rw [upd_same]; rfl
   ·cases hs
  ·cases hs
 ·cases hs
theorem pick_all {α : Type} {ρ : Env} {p : α -> Bool} : ∀ {t : T α} {o : α}, t.all p = true -> t.pick ρ = some o -> p o = true
 | .ok a, o, h, e => by cases e; exact h
 | .br c t e, o, h, hp => by
  simp only [T.all, bAnd] at h; simp only [T.pick] at hp; split at hp
  ·exact pick_all h.1 hp
  ·exact pick_all h.2 hp
 | .both _ _, _, _, e => by cases e
 | .bad _, _, _, e => by cases e
section
variable {P : Program} {F G : Mng} {okF : FuncId -> Bool} {sums : Sums} {keep : FuncId -> Nat -> List Nat} {fuel n : Nat}
theorem auto_at (hm : P.follows .mixedOrders = true) (hok : ∀ f, okF f = true -> ∀ xs w, (callFunc f xs).run P w = .ok (.enter f xs) w) {s : Sm} (hB : But s.name F G)
  (hsum : ∀ ns : List Int, SumsOk P (envOf F ns) default (fun _ => False) sums)
  (hF : ∀ ns j, F s.name j ns = autoF G s.rs (callF P [] okF sums keep fuel n s.f (varShs s.ps 0) .nil (varFacts s.ps 0)) j ns)
  (hg : (callF P [] okF sums keep fuel n s.f (varShs s.ps 0) .nil (varFacts s.ps 0)).good s.name s.rs = true) {chk : Out -> Bool}
  (hc : (callF P [] okF sums keep fuel n s.f (varShs s.ps 0) .nil (varFacts s.ps 0)).all chk = true) {ns : List Int} (hns : shFits s.ps ns) :
  ∃ o es, chk o = true /\ SX.FsOk (envOf F ns) o.fs /\ leafE s.rs o = some es /\ fnVals (F s.name) ns (shSize s.rs) 0 = E.evs (envOf F ns) es /\ shFits s.rs (E.evs (envOf F ns) es) := by
 have hfs := varFacts_ok (F := F) (hs := s.ps) (i := 0) (ns := ns) (by rwa [List.drop_zero])
 obtain ⟨o, es, p1, p2, p3, hr⟩ := leaf_run hm hok hB hns (hsum ns) hfs hg; have hfit : shFits s.rs (E.evs (envOf F ns) es) := calls_some hr fun _ _ h => h.2.2.1
 have hof : SX.FsOk (envOf F ns) o.fs := calls_some hr fun _ _ h => h.2.1
 have hlen : es.length = shSize s.rs := by
  unfold leafE at p2; split at p2
  ·exact shTakes_len p2
  ·cases p2
 have hlen' : (E.evs (envOf F ns) es).length = shSize s.rs := by rw [evs_len, hlen]
 refine ⟨o, es, pick_all hc p1, hof, p2, ?_, hfit⟩; rw [<- hlen']; refine fnVals_getD _ ns _ 0 fun i => ?_
 rw [Nat.zero_add, hF ns i]; unfold autoF; simp only [p1, p2]; rw [<- p3, wrap_fits _ _ (by rw [hlen', length_shLks]) ((shFits_lks _ _).1 hfit)]
theorem evs_getD {ρ : Env} : ∀ (es : List E) (j : Nat), (E.evs ρ es).getD j 0 = (es.getD j (.lit 0)).ev ρ
 | [], j => by simp [E.evs, E.ev]
 | e :: es, 0 => rfl
 | e :: es, j + 1 => evs_getD es j
theorem fits_getD : ∀ (ls : List Lk) (ns : List Int), SX.fits ls ns ↔ ∀ (i : Nat) (l : Lk), ls[i]? = some l -> l.fits (ns.getD i 0)
 | [], ns => ⟨fun _ i l h => by simp at h, fun _ => trivial⟩
 | l :: ls, ns => by
  show (l.fits (ns.headD 0) /\ SX.fits ls ns.tail) ↔ _; rw [fits_getD ls ns.tail]; constructor
  ·rintro ⟨h1, h2⟩ i x hx
   cases i with
   | zero => obtain rfl := sinj hx; cases ns <;> exact h1
   | succ i => have := h2 i x hx; cases ns <;> simpa using this
  ·intro h
   refine ⟨?_, fun i x hx => ?_⟩
   ·have := h 0 l rfl
    cases ns <;> exact this
   ·have := h (i + 1) x hx
    cases ns <;> simpa using this
theorem fnVals_get (F : Nat -> List Int -> Int) (ns : List Int) : ∀ (m j i : Nat), i < m -> (fnVals F ns m j).getD i 0 = F (j + i) ns
 | 0, _, _, h => by omega
 | m + 1, j, 0, _ => rfl
 | m + 1, j, i + 1, h => by
  show (fnVals F ns m (j + 1)).getD i 0 = _; rw [fnVals_get F ns m (j + 1) i (by omega)]
  congr 1; omega
end
def rngF (lo hi : Int) (e : E) : Fs := [(lt0 e (.lit lo), false), (lt0 (.lit hi) e, false)]
def annF (v : Nat -> E) : Fs := rngF 0 255 (v 0) ++ rngF 0 255 (v 1) ++ rngF 0 255 (v 2) ++ rngF 0 65535 (v 3) ++ rngF 0 255 (v 4) ++ rngF 0 65535 (v 6)
def chkEnd (o : Out) : Bool := match leafE [i1] o with
 | some [e] => (decideE o.fs (eq0 e (.lit 0)) == some false) || knows o.fs (annF fun i => .var (13 + i))
 | _ => false
theorem chk_tree : (smT kA).all chkEnd = true := by kernel_rfl
theorem neq_of_decide {ρ : Env} {fs : Fs} (hf : SX.FsOk ρ fs) {a b : E} (h : decideE fs (eq0 a b) = some false) : a.ev ρ ≠ b.ev ρ := fun e => by
 have := decideD_spec hf (show decideD fs (eq0 a b) = some false by unfold decideD; rw [h])
 rw [decide_eq_true ((eq0_ev a b).2 e)] at this; cases this
theorem chk_facts {ns : List Int} (hns : shFits [ptSh] ns) (h : nm61 61 0 ns = 0) : SX.FsOk (envOf nm61 ns) (annF fun i => .var (13 + i)) := by
 obtain ⟨o, es, c1, c2, c3, c4, _⟩ := auto_at (s := kA) (chk := chkEnd) mixed okF_ok but61 (fun ns => sums_none _ _ _ _) (fun ns j => congrFun (congrFun (if_pos rfl : nm61 61 = autoF FN kA.rs (smT kA)) j) ns) good61 chk_tree hns
 unfold chkEnd at c1; rw [show leafE [i1] o = some es from c3] at c1; split at c1
 ·rename_i e he
  obtain rfl := sinj he; have hv : nm61 61 0 ns = e.ev (envOf nm61 ns) := congrArg (fun l => l.headD 0) c4
  rw [bOr] at c1; rcases c1 with c1 | c1
  ·rw [beq_iff_eq] at c1
   exact absurd (hv.symm.trans h) (neq_of_decide c2 c1)
  ·exact knows_ok c2 c1
 ·cases c1
def dsRs : List Sh := [dsSh, i1]
def ofA : Sm := ⟨54, 74, [ptSh, .one (.int .u64), i1], dsRs⟩
def sumsK : Sums := sumsOf [kA, kR]
theorem sumsK_ok {ρ : Env} (h : ρ.fn 61 = nm61 61) (w : World) (M : Nat -> Prop) : SumsOk Tryz.prog ρ w M sumsK := sumsOf_ok fun s hs => by
 simp only [mCo, List.not_mem_nil, or_false] at hs; rcases hs with rfl | rfl
 ·exact SmOk.congr (ρ := envOf nm61 []) (ρ' := ρ) (s := kA) h (sm61 (envOf nm61 []) rfl w M)
 ·exact sm_any (kR_ok h) w M
def ofT : T Out := callF Tryz.prog [] okF sumsK noKeep 80 30 ofA.f (varShs ofA.ps 0) .nil (varFacts ofA.ps 0)
def nm74 : Mng := fun f => if f = 74 then autoF nm73 ofA.rs ofT else nm73 f
theorem but74 : But 74 nm74 nm73 := fun f hf => if_neg hf
theorem fn74_61 : nm74 61 = nm61 61 := (but74 61 (by decide)).trans ((but73 61 (by decide)).trans ((but70 61 (by decide)).trans ((but69 61 (by decide)).trans mid68.chk)))
theorem good74 : ofT.good 74 ofA.rs = true := by kernel_rfl
theorem sm74 (ρ : Env) (h : ρ.fn = nm74) (w : World) (M : Nat -> Prop) : SmOk Tryz.prog ρ w M ofA :=
 smAuto (okF := okF) (sums := sumsK) (keep := noKeep) (fuel := 80) (n := 30) (G := nm73) mixed okF_ok but74 (fun ns w' _ => sumsK_ok (ρ := envOf nm74 ns) fn74_61 w' _) h (fun ns j => congrFun (congrFun (if_pos rfl : nm74 74 = autoF nm73 ofA.rs ofT) j) ns) good74
def chkV : List E := (List.range 21).map .var
def annEs : List E := [.var 13, .var 14, .var 15, .var 16, .var 17, .var 18, .var 19, .var 4, .var 5, .var 21, .var 22]
def ofEnd (o : Out) : Bool := match leafE dsRs o with
 | some es => (decideE o.fs (eq0 (es.getD 11 (.lit 0)) (.lit 0)) == some false) || (knows o.fs [(eq0 (.app 61 0 chkV) (.lit 0), true)] && E.beqs (es.take 11) annEs)
 | _ => false
theorem of_tree : ofT.all ofEnd = true := by kernel_rfl
theorem of_facts {ns : List Int} (hns : shFits ofA.ps ns) (h : nm74 74 11 ns = 0) : nm61 61 0 (E.evs (envOf nm74 ns) chkV) = 0 /\ ∀ j, j < 11 -> nm74 74 j ns = (annEs.getD j (.lit 0)).ev (envOf nm74 ns) := by
 obtain ⟨o, es, c1, c2, c3, c4, _⟩ := auto_at (s := ofA) (chk := ofEnd) mixed okF_ok but74 (fun ns => sumsK_ok (ρ := envOf nm74 ns) fn74_61 default _) (fun ns j => congrFun (congrFun (if_pos rfl : nm74 74 = autoF nm73 ofA.rs ofT) j) ns) good74 of_tree hns
 unfold ofEnd at c1; rw [show leafE dsRs o = some es from c3] at c1
 have hv : ∀ j, j < 12 -> nm74 74 j ns = (E.evs (envOf nm74 ns) es).getD j 0 := fun j hj => by
  have := congrArg (fun l => l.getD j 0) c4
  rw [<- this, fnVals_get _ _ _ _ _ (show j < shSize ofA.rs from hj), Nat.zero_add]; rfl
 have hg : ∀ j, (E.evs (envOf nm74 ns) es).getD j 0 = (es.getD j (.lit 0)).ev (envOf nm74 ns) := fun j => evs_getD es j
 rw [bOr, bAnd] at c1; rcases c1 with c1 | ⟨c1, c5⟩
 ·rw [beq_iff_eq] at c1
  exact absurd ((hg 11).symm.trans ((hv 11 (by omega)).symm.trans h)) (neq_of_decide c2 c1)
 ·have k1 := knows_ok c2 c1
  rw [fsOk_one, eq0_ev] at k1; have k2 : nm74 61 0 (E.evs (envOf nm74 ns) chkV) = 0 := k1.2 rfl; rw [fn74_61] at k2; refine ⟨k2, fun j hj => ?_⟩
  ·rw [hv j (by omega), hg, <- E.beqs_eq _ _ c5, gDe, gDe, List.getElem?_take, if_pos hj]
theorem of_ann {ns : List Int} (hns : shFits ofA.ps ns) (h : nm74 74 11 ns = 0) : SX.FsOk (envOf nm74 ns) (annF fun i => .var (13 + i)) := by
 obtain ⟨h1, _⟩ := of_facts hns h
 have hv : ∀ i, i < 21 -> (E.evs (envOf nm74 ns) chkV).getD i 0 = ns.getD i 0 := fun i hi => by
  rw [evs_getD, chkV, gDe, lMp, lRa hi]; rfl
 have hfit : shFits [ptSh] (E.evs (envOf nm74 ns) chkV) := by
  refine ⟨(fits_getD _ _).2 fun i l hl => ?_, trivial⟩
  have h2 := (fits_getD _ _).1 hns.1 i l hl; have hi : i < 21 := (lSo.1 hl).1; rw [hv i hi]; exact h2
 have hk := chk_facts hfit h1; intro p hp
 have he : p.1.ev (envOf nm74 ns) = p.1.ev (envOf nm61 (E.evs (envOf nm74 ns) chkV)) := by
  have v : ∀ i, i < 21 -> (E.var i).ev (envOf nm74 ns) = (E.var i).ev (envOf nm61 (E.evs (envOf nm74 ns) chkV)) := fun i hi => (hv i hi).symm
  have v13 := v 13 (by decide)
  have v14 := v 14 (by decide)
  have v15 := v 15 (by decide)
  have v16 := v 16 (by decide)
  have v17 := v 17 (by decide)
  have v19 := v 19 (by decide)
  simp only [annF, rngF, List.mem_append, mCo, List.not_mem_nil, or_false] at hp; rcases hp with ((((((rfl | rfl) | (rfl | rfl)) | (rfl | rfl)) | (rfl | rfl)) | (rfl | rfl)) | (rfl | rfl)) <;> simp only [lt0, E.ev, Nat.reduceAdd] at v13 v14 v15 v16 v17 v19 ⊢ <;> simp only [*]
 rw [he]; exact hk p hp
def annOf (A : List E) : List E := [A.getD 13 (.lit 0), A.getD 14 (.lit 0), A.getD 15 (.lit 0), A.getD 16 (.lit 0), A.getD 17 (.lit 0), A.getD 18 (.lit 0), A.getD 19 (.lit 0), A.getD 4 (.lit 0), A.getD 5 (.lit 0), A.getD 21 (.lit 0), A.getD 22 (.lit 0)]
def spOfF (g : FuncId) : SpcT := fun f args hp fs => if f = g then (match shTakes ofA.ps args with
 | some es => some (SX.split fs (eq0 (.app 74 11 (canons fs es)) (.lit 0)) (fun fs' => .ok ⟨.tuple [.agg (dsS fun j => (annOf (canons fs es)).getD j (.lit 0)), .int .i64 (.lit 0)], hp, fs'⟩)
   (fun fs' => .ok ⟨packS (shApps 74 (canons fs es) dsRs 0), hp, fs'⟩))
 | none => none) else none
theorem spOfF_ok {g : FuncId} (hs : ∀ (w : World) (M : Nat -> Prop), SmOk Tryz.prog (envOf nm74 []) w M ⟨g, 74, ofA.ps, ofA.rs⟩) {ρ : Env} {w0 : World} {M : Nat -> Prop} {gl : Gl} (h74 : ρ.fn 74 = nm74 74) : SpecOkT Tryz.prog ρ w0 M gl (spOfF g) := fun f args hp fs t ht β w K hh hfs ha hg hK => by
 unfold spOfF at ht; split at ht
 ·rename_i hfe
  subst hfe; split at ht
  ·rename_i es hes
   obtain rfl := sinj ht; obtain ⟨a1, a2⟩ := shTakes_spec (β := β) ha hes; have hA : E.evs ρ (canons fs es) = E.evs ρ es := canons_ev hfs es; generalize hL : canons fs es = L at *; obtain ⟨c1, c2⟩ := SmOk.congr (ρ := envOf nm74 []) (ρ' := ρ) (s := ⟨f, 74, ofA.ps, ofA.rs⟩) (show ρ.fn 74 = nm74 74 from h74) (hs w (fun _ => False)) (E.evs ρ es) a2
   have hc := c2 w (Kept.refl w _); rw [a1]; have c1 : shFits ofA.rs (fnVals (ρ.fn 74) (E.evs ρ es) (shSize ofA.rs) 0) := c1; have hc : Calls Tryz.prog f (shVals ofA.ps (E.evs ρ es)).toArray w fun e w' => e = .returned (packV (shVals ofA.rs (fnVals (ρ.fn 74) (E.evs ρ es) (shSize ofA.rs) 0))) /\ Below w.heap.size w w' := hc
   rw [<- hA] at c1 hc; obtain ⟨b1, b2⟩ := shApps_spec (ρ := ρ) (β := β) (n := hp.n) 74 L dsRs 0 _ (Nat.le_refl _) c1; obtain ⟨d1, d2⟩ := packS_spec (ρ := ρ) (β := β) (n := hp.n) _ b2; obtain ⟨fs', hf', h⟩ := split_holds hfs hK; rw [<- hA]; refine hc.mono fun e w' ⟨he, hb⟩ => ?_
   rcases h with ⟨c, h⟩ | ⟨c, h⟩
   ·rw [eq0_ev] at c
    have hz : nm74 74 11 (E.evs ρ L) = 0 := by
     rw [<- h74]; exact c
    have hns : shFits ofA.ps (E.evs ρ L) := by rw [hA]; exact a2
    obtain ⟨_, hset⟩ := of_facts hns hz; have hg2 : ∀ j, (L.getD j (.lit 0)).ev ρ = (E.evs ρ L).getD j 0 := fun j => (evs_getD L j).symm
    have hann : E.evs ρ (annOf L) = E.evs (envOf nm74 (E.evs ρ L)) annEs := by
     simp only [annOf, E.evs, hg2]; rfl
    have hv : ∀ j, j < 11 -> ((annOf L).getD j (.lit 0)).ev ρ = (fnVals (ρ.fn 74) (E.evs ρ L) 11 0).getD j 0 := fun j hj => by
     rw [fnVals_get _ _ _ _ _ hj, Nat.zero_add, h74, hset j hj, <- evs_getD, hann, evs_getD]
    have hfit : fitsK ks11 (fnVals (ρ.fn 74) (E.evs ρ L) 11 0) := by
     have c3 := c1.1; have hx : fnVals (ρ.fn 74) (E.evs ρ L) 11 0 = [ρ.fn 74 0 (E.evs ρ L), ρ.fn 74 1 (E.evs ρ L), ρ.fn 74 2 (E.evs ρ L), ρ.fn 74 3 (E.evs ρ L), ρ.fn 74 4 (E.evs ρ L), ρ.fn 74 5 (E.evs ρ L), ρ.fn 74 6 (E.evs ρ L), ρ.fn 74 7 (E.evs ρ L), ρ.fn 74 8 (E.evs ρ L), ρ.fn 74 9 (E.evs ρ L), ρ.fn 74 10 (E.evs ρ L)] := rfl; rw [hx]; exact ⟨c3.1, List.cons_ne_nil _ _, c3.2.1, List.cons_ne_nil _ _, c3.2.2.1, List.cons_ne_nil _ _, c3.2.2.2.1, List.cons_ne_nil _ _, c3.2.2.2.2.1, List.cons_ne_nil _ _, c3.2.2.2.2.2.1, List.cons_ne_nil _ _, c3.2.2.2.2.2.2.1, List.cons_ne_nil _ _, c3.2.2.2.2.2.2.2.1, List.cons_ne_nil _ _, c3.2.2.2.2.2.2.2.2.1, List.cons_ne_nil _ _, c3.2.2.2.2.2.2.2.2.2.1, List.cons_ne_nil _ _, c3.2.2.2.2.2.2.2.2.2.2.1, List.cons_ne_nil _ _, rfl⟩
    have h1 := dsS_ev (ρ := ρ) (β := β) (f := fun j => (annOf L).getD j (.lit 0)) hv
    have h2 := dsS_ok (ρ := ρ) (n := hp.n) (f := fun j => (annOf L).getD j (.lit 0)) hv hfit
    have := h β w' (Ext.refl _ _) (Nat.le_refl _) (Stay.refl _) (hh.below hb) hf' ⟨h2, (show (Lit.int .i64 0).wf = true by decide), trivial⟩
    refine ⟨_, he, ?_⟩; have e11 : ρ.fn 74 11 (E.evs ρ L) = 0 := by rw [h74]; exact hz
    have hval : packV (shVals ofA.rs (fnVals (ρ.fn 74) (E.evs ρ L) (shSize ofA.rs) 0)) = (SV.tuple [.agg (dsS fun j => (annOf L).getD j (.lit 0)), .int .i64 (.lit 0)]).ev ρ β := by
     simp only [SV.ev, SV.evs, h1]; show Value.tuple #[.agg #[.int .i64 (ρ.fn 74 0 _), .int .i64 (ρ.fn 74 1 _), .int .i64 (ρ.fn 74 2 _), .int .i64 (ρ.fn 74 3 _), .int .i64 (ρ.fn 74 4 _), .int .u64 (ρ.fn 74 5 _), .int .i64 (ρ.fn 74 6 _), .int .u64 (ρ.fn 74 7 _), .int .i64 (ρ.fn 74 8 _), .int .u64 (ρ.fn 74 9 _), .int .i64 (ρ.fn 74 10 _)], .int .i64 (ρ.fn 74 11 (E.evs ρ L))] = _; rw [e11]; rfl
    rw [hval]; exact this
   ·have := h β w' (Ext.refl _ _) (Nat.le_refl _) (Stay.refl _) (hh.below hb) hf' d2
    refine ⟨_, he, ?_⟩; have hval : packV (shVals ofA.rs (fnVals (ρ.fn 74) (E.evs ρ L) (shSize ofA.rs) 0)) = (packS (shApps 74 L dsRs 0)).ev ρ β := by rw [d1, b1]; rfl
    rw [hval]; exact this
  ·cases ht
 ·cases ht
def spOf : SpcT := spOfF 54
theorem spOf_ok {ρ : Env} {w0 : World} {M : Nat -> Prop} {gl : Gl} (h74 : ρ.fn 74 = nm74 74) : SpecOkT Tryz.prog ρ w0 M gl spOf := spOfF_ok (fun w M => sm74 (envOf nm74 []) rfl w M) h74
def ofR : Sm := { ofA with f := 63 }
theorem both74 : ((both2 Tryz.prog okF sumsK noKeep 80 30 54 63 ofA.ps).all fun p => sameO ofA.rs p.1 p.2) = true := by kernel_rfl
theorem sm74R (ρ : Env) (h : ρ.fn = nm74) (w : World) (M : Nat -> Prop) : SmOk Tryz.prog ρ w M ofR :=
 smAuto2 (s := ofA) (okF := okF) (sums := sumsK) (keep := noKeep) (fuel := 80) (n := 30) (G := nm73) mixed okF_ok but74 (fun ns w' _ => sumsK_ok (ρ := envOf nm74 ns) fn74_61 w' _) h (fun ns j => congrFun (congrFun (if_pos rfl : nm74 74 = autoF nm73 ofA.rs ofT) j) ns) good74 both74
def spOfR : SpcT := spOfF 63
theorem spOfR_ok {ρ : Env} {w0 : World} {M : Nat -> Prop} {gl : Gl} (h74 : ρ.fn 74 = nm74 74) : SpecOkT Tryz.prog ρ w0 M gl spOfR := spOfF_ok (fun w M => sm74R (envOf nm74 []) rfl w M) h74
end
end
end Go.Proofs.YtfcpmapfhgibpaaGreatDoor
