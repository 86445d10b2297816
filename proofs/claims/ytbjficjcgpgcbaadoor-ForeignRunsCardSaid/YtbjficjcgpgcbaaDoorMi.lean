/- The executor: a call whose ways come to one state, kept as a contract; of no program. -/
import Derived.Test.YtbjficjcgpgcbaaDoorMh
namespace Go.Proofs.YtbjficjcgpgcbaaDoor.SX
open Go Go.RowKit
set_option linter.unusedVariables false
set_option linter.unusedSimpArgs false

def Box.beq (a b : Box) : Bool := (a.rw == b.rw) && Bx.beq a.c b.c
theorem Box.beq_eq {a b : Box} (h : a.beq b = true) : a = b := by
  simp only [Box.beq, Bool.and_eq_true, beq_iff_eq] at h
  obtain ⟨r, c⟩ := a
  obtain ⟨r', c'⟩ := b
  simp only at h
  rw [h.1, Bx.beq_eq h.2]
def Hp.ofL (l : List Box) : Hp := ⟨l.length, fun k => l.getD k ⟨false, .gone⟩⟩
/-- Is the known heap this one? -/
def hpBeq (hp : Hp) (l : List Box) : Bool := Nat.beq hp.n l.length && (List.range l.length).all fun k => (hp.box k).beq (l.getD k ⟨false, .gone⟩)
theorem hpBeq_at {hp : Hp} {l : List Box} (h : hpBeq hp l = true) : hp.n = (Hp.ofL l).n ∧ ∀ k, hp.at k = (Hp.ofL l).at k := by
  simp only [hpBeq, Bool.and_eq_true, beq_iff, decide_eq_true_eq, List.all_eq_true] at h
  refine ⟨h.1, fun k => ?_⟩
  by_cases hk : k < l.length
  · have e := Box.beq_eq (h.2 k (List.mem_range.2 hk))
    rw [Hp.at_some.2 ⟨by rw [h.1]; exact hk, e⟩]
    exact (Hp.at_some.2 (show k < (Hp.ofL l).n ∧ (Hp.ofL l).box k = l.getD k ⟨false, .gone⟩ from ⟨hk, rfl⟩)).symm
  · have e1 : hp.at k = none := by
      cases hc : hp.at k with
      | none => rfl
      | some b => have := Hp.at_lt hc; omega
    have e2 : (Hp.ofL l).at k = none := by
      cases hc : (Hp.ofL l).at k with
      | none => rfl
      | some b => exact absurd (Hp.at_lt hc) hk
    rw [e1, e2]
section
variable {P : Program} {ρ : Env} {w0 : World} {M : Nat → Prop} {gl : Gl} {w : World} {β : Bm} {hp hp' : Hp}
theorem Heap.same (h : Heap ρ w0 M β hp w) (hn : hp.n = hp'.n) (ha : ∀ k, hp.at k = hp'.at k) : Heap ρ w0 M β hp' w := by
  obtain ⟨φ, ho⟩ := h.objs
  refine ⟨fun k b hk => h.lies k b (by rw [ha]; exact hk), fun j k b b' hj hk => h.inj j k b b' (by rw [ha]; exact hj) (by rw [ha]; exact hk), fun k b hk => h.mine k b (by rw [ha]; exact hk), fun k b hk => by rw [← hn]; exact h.good k b (by rw [ha]; exact hk), h.kept, fun k b hk => h.arrs k b (by rw [ha]; exact hk), φ, ?_, ?_, ?_⟩
  · exact fun k b q es hk => ho.has k b q es (by rw [ha]; exact hk)
  · exact fun k b hk => ho.own k b (by rw [ha]; exact hk)
  · exact fun j k b b' hj hk => ho.apart j k b b' (by rw [ha]; exact hj) (by rw [ha]; exact hk)
end
/-- A call at a known heap, under some of what is known, and the one state that it comes to. -/
structure Memo where
  f : FuncId
  args : List SV
  hp : List Box
  fs : Fs
  v : SV
  out : List Box
def spMemo (m : Memo) : Spc := fun f args hp fs => if f = m.f then (if SV.beqs args m.args && hpBeq hp m.hp && knows fs m.fs then some ⟨m.v, Hp.ofL m.out, fs⟩ else none) else none
def memoSt (o : Out) : St := ⟨1, fun _ => .tuple [o.v, .ptr 0 0], o.hp, o.fs⟩
def Memo.tm (m : Memo) : Tm := ⟨1, [(0, .tuple [m.v, .ptr 0 0])], m.out, []⟩
def Memo.leaf (gl : Gl) (m : Memo) (o : Out) : Bool :=
  m.tm.fit gl (fun i => .var i) (memoSt o) && SV.fit o.fs (fun i => .var i) (m.tm.ren (memoSt o)) m.out.length m.v o.v && (List.range m.hp.length).all fun k => Nat.beq (m.tm.ren (memoSt o) k) k
def Memo.stays (m : Memo) : Bool := Nat.ble m.hp.length m.out.length && Nat.blt 0 m.hp.length && (List.range m.hp.length).all fun k => (m.hp.getD k ⟨false, .gone⟩).rw || (m.hp.getD k ⟨false, .gone⟩).beq (m.out.getD k ⟨false, .gone⟩)
def Memo.ok (P : Program) (gl : Gl) (okF : FuncId → Bool) (sp : Spc) (keep : FuncId → Nat → List Nat) (fuel n : Nat) (m : Memo) : Bool :=
  m.stays && (callG P gl okF sp keep fuel n m.f m.args (Hp.ofL m.hp) m.fs).all (m.leaf gl)
section
variable {P : Program} {ρ : Env} {w0 : World} {M : Nat → Prop} {gl : Gl}
theorem memo_ok {okF : FuncId → Bool} {sp : Spc} {keep : FuncId → Nat → List Nat} {fuel n : Nat} (hm : P.follows .mixedOrders = true) (hok : ∀ f, okF f = true → ∀ as w, (callFunc f as).run P w = .ok (.enter f as) w) (hsp : SpecOk P ρ w0 M gl sp) {m : Memo} (h : m.ok P gl okF sp keep fuel n = true) : SpecOk P ρ w0 M gl (spMemo m) := fun f args hp fs o ho β w hh hf ha hg => by
  unfold spMemo at ho
  split at ho
  · rename_i hfe
    subst hfe
    split at ho
    · rename_i hc
      obtain rfl := Option.some.inj ho
      simp only [Bool.and_eq_true] at hc
      obtain ⟨⟨c1, c2⟩, c3⟩ := hc
      obtain rfl := SV.beqs_eq _ _ c1
      obtain ⟨hn, hat⟩ := hpBeq_at c2
      simp only [Memo.ok, Bool.and_eq_true] at h
      obtain ⟨h1, h2⟩ := h
      simp only [Memo.stays, Bool.and_eq_true, List.all_eq_true] at h1
      obtain ⟨⟨s1, s0⟩, s2⟩ := h1
      have s1 := Nat.le_of_ble_eq_true s1
      rw [blt_iff, decide_eq_true_eq] at s0
      have hh2 := hh.same hn hat
      have hnn : hp.n = m.hp.length := hn
      refine ((callG_run (gl := gl) (keep := keep) (fuel := fuel) hm hok hsp n m.f m.args (Hp.ofL m.hp) m.fs β w (fun x w' => ∃ β', Ext hp.n β β' ∧ Heap ρ w0 M β' (Hp.ofL m.out) w' ∧ m.v.ok ρ m.out.length ∧ x = m.v.ev ρ β') hh2 (knows_ok hf c3) (by rw [← hn]; exact ha) (by rw [← hn]; exact hg)
        (T.holds_mono (fun o ho β' w' hx hl hst hh' hf' hv => ?_) (T.all_holds h2))).2).mono fun e w' ⟨y, he, β', k1, k2, k3, k4⟩ => ⟨β', k1, by rw [hnn]; exact s1, ?_, k2, hf, k3, by rw [he, k4]⟩
      · simp only [Memo.leaf, Bool.and_eq_true, List.all_eq_true] at ho
        obtain ⟨⟨l1, l2⟩, l3⟩ := ho
        have hpos : 0 < o.hp.n := Nat.lt_of_lt_of_le s0 hl
        have hconc : Conc ρ w0 M gl β' (memoSt o) ⟨#[(SV.tuple [o.v, .ptr 0 0]).ev ρ β'], []⟩ w' := by
          refine ⟨rfl, fun i hi => ?_, rfl, fun i hi => ⟨hv, hpos, trivial⟩, hh', hf', fun p hp => ?_⟩
          · have hi : i < 1 := hi
            obtain rfl : i = 0 := by omega
            rfl
          · obtain ⟨g1, g2⟩ := hg p hp
            have hlt : p.2 < m.hp.length := by rw [← hnn]; exact g2
            exact ⟨by rw [hx p.2 hlt]; exact g1, Nat.lt_of_lt_of_le hlt hl⟩
        have hfit := Tm.fit_run hconc l1
        have hfh := hfit.heap
        rw [envSub_var] at hfh
        obtain ⟨e1, e2⟩ := SV.fit_spec (β := β') (m := o.hp.n) hf' _ _ l2
        rw [envSub_var] at e1 e2
        refine ⟨fun k => β' (m.tm.ren (memoSt o) k), fun k hk => ?_, hfh, e2 hv, e1⟩
        have hk' : k < m.hp.length := by rw [← hnn]; exact hk
        have := l3 k (List.mem_range.2 hk')
        rw [beq_iff, decide_eq_true_eq] at this
        show β' (m.tm.ren (memoSt o) k) = β k
        rw [this]
        exact hx k hk'
      · intro j b hj hr
        rw [hat] at hj
        have hjl : j < m.hp.length := Hp.at_lt hj
        obtain ⟨_, hb⟩ := Hp.at_some.1 hj
        have hb : m.hp.getD j ⟨false, .gone⟩ = b := hb
        have := s2 j (List.mem_range.2 hjl)
        rw [Bool.or_eq_true, hb] at this
        rcases this with h3 | h3
        · rw [hr] at h3; cases h3
        · rw [Box.beq_eq h3]
          exact Hp.at_some.2 ⟨by show j < m.out.length; omega, rfl⟩
    · cases ho
  · cases ho
end
end Go.Proofs.YtbjficjcgpgcbaaDoor.SX
