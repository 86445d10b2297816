/- What becomes of the known heap: new blocks, stores, calls. Of no program. -/
import Derived.Test.YthbfjnmdjehljaaDoorSxY
import Derived.Laws.Append
import Derived.Laws.MakeOwn
namespace Go.Proofs.YthbfjnmdjehljaaDoor.SX
open Go Go.RowKit
set_option linter.unusedVariables false
set_option linter.unusedSimpArgs false

section
variable {P : Program} {ρ : Env} {w0 : World} {M : Nat → Prop} {β : Bm} {w w' : World} {hp : Hp}

theorem Bx.lies_ext {n : Nat} {β β' : Bm} (hx : Ext n β β') {bv : Nat × Nat} {w : World} : ∀ {b : Bx}, b.ok ρ n → b.lies ρ β bv w → b.lies ρ β' bv w
  | .cells c ty 0, hk, h => by simp only [Bx.lies] at *; rw [SV.evs_ext hx c hk]; exact h
  | .cells c ty (s + 1), hk, h => by simp only [Bx.lies] at *; rw [SV.evs_ext hx c hk]; exact h
  | .map es clock, hk, h => by
    simp only [Bx.lies] at *
    rw [h]
    congr 3
    exact List.map_congr_left fun e he => by
      have := hk e he
      simp only [entOf, SV.ev_ext hx _ this.1, SV.ev_ext hx _ this.2]
  | .ro c, hk, h => by simp only [Bx.lies] at *; rw [SV.evs_ext hx c hk]; exact h
  | .arr _ _ _, _, h => h
  | .gone, _, h => h
theorem Bx.lies_block {b : Bx} {bv : Nat × Nat} {w w' : World} (h : w'.heap[bv.1]? = w.heap[bv.1]?) (hl : b.lies ρ β bv w) : b.lies ρ β bv w' := by
  have hcell : ∀ i, w'.cell? ⟨bv.1, i, none⟩ = w.cell? ⟨bv.1, i, none⟩ := fun i => by unfold World.cell?; simp only [h]
  unfold Bx.lies at *
  split <;> first | (simp only at hl ⊢; rw [h]; exact hl) | (intro i v hv; rw [hcell]; exact hl i v hv) | (intro i f l hi hf; rw [hcell]; exact hl i f l hi hf) | trivial
theorem Bx.lies_lt {b : Bx} {bv : Nat × Nat} {w : World} (hl : b.lies ρ β bv w) (hv : b.live = true) : bv.1 < w.heap.size := by
  cases b with
  | cells c ty tail => obtain ⟨rest, h⟩ := Bx.lies_cells hl; exact (Array.getElem?_eq_some_iff.1 h).1
  | map es clock => exact (Array.getElem?_eq_some_iff.1 hl).1
  | ro c =>
    cases c with
    | nil => cases hv
    | cons s c => exact block_lt_of_cell (hl 0 _ rfl)
  | arr a ks len0 => cases hv
  | gone => cases hv
theorem Bx.not_live {b : Bx} {bv : Nat × Nat} {w : World} (h : b.live = false) (ha : b.isArr = false) : b.lies ρ β bv w := by
  cases b with
  | cells c ty tail => cases h
  | map es clock => cases h
  | ro c =>
    cases c with
    | nil => intro i v hv; simp [SV.evs] at hv
    | cons s c => cases h
  | arr a ks len0 => cases ha
  | gone => trivial
theorem Bx.ok_mono {n m : Nat} (hnm : n ≤ m) : ∀ {b : Bx}, b.ok ρ n → b.ok ρ m
  | .cells c _ _, h => SV.oks_mono hnm c h
  | .map es _, h => fun e he => ⟨SV.ok_mono hnm _ (h e he).1, SV.ok_mono hnm _ (h e he).2⟩
  | .ro c, h => SV.oks_mono hnm c h
  | .arr _ _ _, _ => trivial
  | .gone, _ => trivial

theorem Kept.refl (w : World) (M : Nat → Prop) : Kept w M w := ⟨rfl, rfl, rfl, Nat.le_refl _, fun _ _ _ => rfl⟩
theorem Kept.below (h : Kept w0 M w) (hb : Below w.heap.size w w') : Kept w0 M w' :=
  ⟨hb.os.trans h.os, hb.tape.trans h.tape, hb.output.trans h.output, Nat.le_trans h.size hb.size, fun i hi hm => (hb.block i (Nat.lt_of_lt_of_le hi h.size)).trans (h.block i hi hm)⟩

/-- A call that makes new memory alone (a draw and an alloc are such). -/
theorem Heap.below (h : Heap ρ w0 M β hp w) (hb : Below w.heap.size w w') : Heap ρ w0 M β hp w' := by
  refine ⟨fun k b hk => ?_, h.inj, h.mine, h.good, h.kept.below hb, h.arrs⟩
  have hl := h.lies k b hk
  cases hv : b.c.live with
  | false =>
    cases ha : b.c.isArr with
    | false => exact Bx.not_live hv ha
    | true => exact Bx.lies_block (hb.block _ (Nat.lt_of_lt_of_le (h.arrs k b hk ha).1 h.kept.size)) hl
  | true => exact Bx.lies_block (hb.block _ (Bx.lies_lt hl hv)) hl

def upd (β : Bm) (n : Nat) (v : Nat × Nat) : Bm := fun b => if b = n then v else β b
theorem upd_same (β : Bm) (n : Nat) (v : Nat × Nat) : upd β n v n = v := if_pos rfl
theorem upd_ext (β : Bm) (n : Nat) (v : Nat × Nat) : Ext n β (upd β n v) := fun b hb => if_neg (Nat.ne_of_lt hb)

/-- A new box at a block that is new (w is the world with it). -/
theorem Heap.push {bv : Nat × Nat} {b : Bx} (h : Heap ρ w0 M β hp w) (hnew : ∀ j b', hp.at j = some b' → b'.c.live = true → (β j).1 ≠ bv.1) (hsz : M bv.1 ∨ w0.heap.size ≤ bv.1) (hok : b.ok ρ (hp.n + 1))
    (hl : b.lies ρ (upd β hp.n bv) bv w) (ha : b.isArr = false := by rfl) : Heap ρ w0 M (upd β hp.n bv) (hp.push ⟨true, b⟩) w := by
  have hx := upd_ext β hp.n bv
  have cases_ : ∀ (k : Nat) (x : Box), (hp.push ⟨true, b⟩).at k = some x → (k < hp.n ∧ hp.at k = some x ∧ upd β hp.n bv k = β k) ∨ (k = hp.n ∧ x = ⟨true, b⟩) := fun k x hk => by
    have hlt' := Hp.at_lt hk
    simp only [Hp.n_push] at hlt'
    by_cases hlt : k < hp.n
    · rw [Hp.at_push_lt _ hlt] at hk
      exact .inl ⟨hlt, hk, hx k hlt⟩
    · obtain rfl : k = hp.n := by omega
      rw [Hp.at_push_n] at hk
      exact .inr ⟨rfl, (Option.some.inj hk).symm⟩
  refine ⟨fun k x hk => ?_, fun j k x y hj hk hlx hly he => ?_, fun k x hk hr hlx => ?_, fun k x hk => ?_, h.kept, fun k x hk hax => ?_⟩
  · rcases cases_ k x hk with ⟨hlt, hk', e⟩ | ⟨rfl, rfl⟩
    · rw [e]; exact Bx.lies_ext hx (h.good k x hk') (h.lies k x hk')
    · rw [upd_same]; exact hl
  · rcases cases_ j x hj with ⟨hlt, hj', e⟩ | ⟨rfl, rfl⟩ <;> rcases cases_ k y hk with ⟨hlt', hk', e'⟩ | ⟨rfl, rfl⟩
    · rw [e, e'] at he; exact h.inj j k x y hj' hk' hlx hly he
    · rw [e, upd_same] at he; exact absurd he (hnew j x hj' hlx)
    · rw [e', upd_same] at he; exact absurd he.symm (hnew k y hk' hly)
    · rfl
  · rcases cases_ k x hk with ⟨hlt, hk', e⟩ | ⟨rfl, rfl⟩
    · rw [e]; exact h.mine k x hk' hr hlx
    · rw [upd_same]; exact hsz
  · simp only [Hp.n_push]
    rcases cases_ k x hk with ⟨hlt, hk', e⟩ | ⟨rfl, rfl⟩
    · exact Bx.ok_mono (by omega) (h.good k x hk')
    · exact hok
  · rcases cases_ k x hk with ⟨hlt, hk', e⟩ | ⟨rfl, rfl⟩
    · rw [e]; exact h.arrs k x hk' hax
    · simp only at hax; rw [ha] at hax; cases hax
theorem Heap.alloc {c : Nat} {b : Bx} {o : Obj} (h : Heap ρ w0 M β hp w) (hok : b.ok ρ (hp.n + 1)) (hl : b.lies ρ (upd β hp.n (w.heap.size, c)) (w.heap.size, c) (w.alloc o)) (ha : b.isArr = false := by rfl) :
    Heap ρ w0 M (upd β hp.n (w.heap.size, c)) (hp.push ⟨true, b⟩) (w.alloc o) :=
  (h.below ((Below.refl _ _).alloc (Nat.le_refl _) _)).push (fun j b' hj hv e => by
    have := Bx.lies_lt (h.lies j b' hj) hv
    simp only at e
    omega) (.inr h.kept.size) hok hl ha

/-- Box k has been written. -/
theorem Heap.write {k : Nat} {b : Box} {c : Bx} (h : Heap ρ w0 M β hp w) (hk : hp.at k = some b) (hr : b.rw = true) (hv : b.c.live = true) (hok : c.ok ρ hp.n) (hl : c.lies ρ β (β k) w')
    (hother : ∀ i, i ≠ (β k).1 → w'.heap[i]? = w.heap[i]?) (hsz : w'.heap.size = w.heap.size) (hos : w'.os = w.os) (htp : w'.tape = w.tape) (hou : w'.output = w.output) (ha : c.isArr = false := by rfl) :
    Heap ρ w0 M β (hp.put k ⟨b.rw, c⟩) w' := by
  have hlt := Hp.at_lt hk
  have cases_ : ∀ (j : Nat) (x : Box), (hp.put k ⟨b.rw, c⟩).at j = some x → (j ≠ k ∧ hp.at j = some x) ∨ (j = k ∧ x = ⟨b.rw, c⟩) := fun j x hj => by
    by_cases he : j = k
    · subst he; rw [Hp.at_put_same _ hlt] at hj; exact .inr ⟨rfl, (Option.some.inj hj).symm⟩
    · rw [Hp.at_put_ne _ he] at hj; exact .inl ⟨he, hj⟩
  refine ⟨fun j x hj => ?_, fun i j x y hi hj hx hy e => ?_, fun j x hj hrw hx => ?_, fun j x hj => ?_, ?_, fun j x hj hax => ?_⟩
  · rcases cases_ j x hj with ⟨hne, hj'⟩ | ⟨rfl, rfl⟩
    · cases hx : x.c.live with
      | false =>
        cases hax : x.c.isArr with
        | false => exact Bx.not_live hx hax
        | true =>
          obtain ⟨a1, a2⟩ := h.arrs j x hj' hax
          refine Bx.lies_block (hother _ fun e => ?_) (h.lies j x hj')
          rcases h.mine k b hk hr hv with h1 | h1
          · exact a2 (e ▸ h1)
          · omega
      | true => exact Bx.lies_block (hother _ fun e => hne (h.inj j k x b hj' hk hx hv e)) (h.lies j x hj')
    · exact hl
  · rcases cases_ i x hi with ⟨hne, hi'⟩ | ⟨rfl, rfl⟩ <;> rcases cases_ j y hj with ⟨hne', hj'⟩ | ⟨rfl, rfl⟩
    · exact h.inj i j x y hi' hj' hx hy e
    · exact h.inj i j x b hi' hk hx hv e
    · exact h.inj i j b y hk hj' hv hy e
    · rfl
  · rcases cases_ j x hj with ⟨hne, hj'⟩ | ⟨rfl, rfl⟩
    · exact h.mine j x hj' hrw hx
    · exact h.mine j b hk hr hv
  · simp only [Hp.n_put]
    rcases cases_ j x hj with ⟨hne, hj'⟩ | ⟨rfl, rfl⟩
    · exact h.good j x hj'
    · exact hok
  · refine ⟨hos.trans h.kept.os, htp.trans h.kept.tape, hou.trans h.kept.output, by rw [hsz]; exact h.kept.size, fun i hi hm => ?_⟩
    rcases h.mine k b hk hr hv with h1 | h1
    · rw [hother i fun e => hm (e ▸ h1)]; exact h.kept.block i hi hm
    · rw [hother i (by omega)]; exact h.kept.block i hi hm
  · rcases cases_ j x hj with ⟨hne, hj'⟩ | ⟨rfl, rfl⟩
    · exact h.arrs j x hj' hax
    · simp only at hax; rw [ha] at hax; cases hax
/-- What is known of box k is forgotten. -/
theorem Heap.forget (h : Heap ρ w0 M β hp w) (k : Nat) : Heap ρ w0 M β (hp.put k ⟨false, .gone⟩) w := by
  have cases_ : ∀ (j : Nat) (x : Box), (hp.put k ⟨false, .gone⟩).at j = some x → hp.at j = some x ∧ j ≠ k ∨ x = ⟨false, .gone⟩ := fun j x hj => by
    by_cases he : j = k
    · subst he
      have hlt : j < hp.n := by have := Hp.at_lt hj; simpa using this
      rw [Hp.at_put_same _ hlt] at hj; exact .inr (Option.some.inj hj).symm
    · rw [Hp.at_put_ne _ he] at hj; exact .inl ⟨hj, he⟩
  refine ⟨fun j x hj => ?_, fun i j x y hi hj hx hy e => ?_, fun j x hj hrw hx => ?_, fun j x hj => ?_, h.kept, fun j x hj hax => ?_⟩
  · rcases cases_ j x hj with ⟨h', _⟩ | rfl
    · exact h.lies j x h'
    · trivial
  · rcases cases_ i x hi with ⟨hi', _⟩ | rfl
    · rcases cases_ j y hj with ⟨hj', _⟩ | rfl
      · exact h.inj i j x y hi' hj' hx hy e
      · cases hy
    · cases hx
  · rcases cases_ j x hj with ⟨h', _⟩ | rfl
    · exact h.mine j x h' hrw hx
    · cases hx
  · simp only [Hp.n_put]
    rcases cases_ j x hj with ⟨h', _⟩ | rfl
    · exact h.good j x h'
    · trivial
  · rcases cases_ j x hj with ⟨h', _⟩ | rfl
    · exact h.arrs j x h' hax
    · cases hax

theorem Heap.sees (h : Heap ρ w0 M β hp w) : Sees ρ β hp.n hp w := ⟨h.lies, h.good⟩

/-- Cells stored one behind the other. -/
theorem run_store_mid (g : Nat) (t : TypeId) : ∀ (vs : List Value) (off i : Nat) (cur : List Value) (w : World), w.heap[g]? = some (.cells cur.toArray t (0, 0)) → off + i + vs.length ≤ cur.length → (∀ v ∈ vs, v.oneCell' = true) →
    ∃ w', (storeCells ⟨g, off, none⟩ vs i).run P w = .ok () w' ∧ w'.heap[g]? = some (.cells (spliceV cur vs (off + i)).toArray t (0, 0)) ∧ (∀ j, j ≠ g → w'.heap[j]? = w.heap[j]?) ∧ w'.heap.size = w.heap.size ∧ w'.os = w.os ∧ w'.tape = w.tape ∧ w'.output = w.output
  | [], off, i, cur, w, hg, hl, _ => ⟨w, rfl, by simpa [spliceV] using hg, fun _ _ => rfl, rfl, rfl, rfl, rfl⟩
  | v :: vs, off, i, cur, w, hg, hl, h1 => by
    have hi : off + i < cur.length := by simp at hl; omega
    have hcell : w.cell? ⟨g, off + i, none⟩ = some cur[off + i] := by simp [World.cell?, hg, hi]
    have hfro : w.frozen? ⟨g, off + i, none⟩ = false := by simp [World.frozen?, hg]
    have hst : (store ((⟨g, off, none⟩ : Addr).add i) v).run P w = .ok () (w.setCell ⟨g, off + i, none⟩ v) := by
      rw [add_lit, run_store P w _ v _ (h1 v (by simp)), hcell]
      simp [hfro]
    have hg' : (w.setCell ⟨g, off + i, none⟩ v).heap[g]? = some (.cells (cur.set (off + i) v).toArray t (0, 0)) := by
      rw [heap_setCell_same w g (off + i) _ t v hg]; simp
    obtain ⟨w', r1, r2, r3, r4, r5, r6, r7⟩ := run_store_mid g t vs off (i + 1) (cur.set (off + i) v) _ hg' (by simp at hl ⊢; omega) (fun x hx => h1 x (by simp [hx]))
    refine ⟨w', ?_, ?_, fun j hj => (r3 j hj).trans (heap_setCell_other w _ j v hj), by rw [r4]; simp, r5, r6, r7⟩
    · simp only [storeCells, Sem.run_bind, hst, Result.andThen_ok, r1]
    · rw [spliceV_cons _ _ _ _ hl]; exact r2
theorem spliceV_append (l m rest : List Value) (off : Nat) (h : off + m.length ≤ l.length) : spliceV (l ++ rest) m off = spliceV l m off ++ rest := by
  unfold spliceV
  rw [List.take_append_of_le_length (by omega), List.drop_append_of_le_length (by omega)]
  simp
theorem length_spliceV (l m : List Value) (off : Nat) (h : off + m.length ≤ l.length) : (spliceV l m off).length = l.length := by
  simp [spliceV]; omega
/-- A store into box k. -/
theorem Heap.store {k off : Nat} {rw_ : Bool} {c cs : List SV} {ty : TypeId} {tail : Nat} (h : Heap ρ w0 M β hp w) (hk : hp.at k = some ⟨rw_, .cells c ty tail⟩) (hr : rw_ = true) (hle : off + cs.length ≤ c.length)
    (hone : ∀ s ∈ cs, s.one = true) (hok : SV.oks ρ hp.n cs) :
    ∃ w', (storeCells ⟨(β k).1, off, none⟩ (SV.evs ρ β cs)).run P w = .ok () w' ∧ Heap ρ w0 M β (hp.put k ⟨true, .cells (splice c cs off) ty tail⟩) w' := by
  subst hr
  have hl := h.lies _ _ hk
  have hgood : SV.oks ρ hp.n c := h.good _ _ hk
  obtain ⟨rest, hg⟩ := Bx.lies_cells hl
  have hones : ∀ v ∈ SV.evs ρ β cs, v.oneCell' = true := fun v hv => by
    rw [SV.evs_map] at hv
    obtain ⟨s, hs, rfl⟩ := List.mem_map.1 hv
    exact SV.one_ev ρ β (hone s hs)
  have hlen : (SV.evs ρ β cs).length = cs.length := by rw [SV.evs_map]; simp
  have hlc : (SV.evs ρ β c).length = c.length := by rw [SV.evs_map]; simp
  obtain ⟨w', r1, r2, r3, r4, r5, r6, r7⟩ := run_store_mid (P := P) (β k).1 ty (SV.evs ρ β cs) off 0 _ w hg (by simp [hlen, hlc]; omega) hones
  refine ⟨w', r1, ?_⟩
  refine h.write hk rfl rfl (oks_splice hgood hok off) ?_ r3 r4 r5 r6 r7
  simp only [Nat.add_zero] at r2
  rw [spliceV_append _ _ _ _ (by rw [hlen, hlc]; exact hle), ← evs_splice] at r2
  cases tail with
  | zero =>
    simp only [Bx.lies] at hl ⊢
    rw [hl] at hg
    have : rest = [] := by simpa using hg
    subst this
    simpa using r2
  | succ s =>
    obtain ⟨rest', h1, h2⟩ := hl
    rw [h1] at hg
    have : rest' = rest := by simpa using hg
    subst this
    exact ⟨rest', r2, by rw [length_splice hle]; exact h2⟩
end
end Go.Proofs.YthbfjnmdjehljaaDoor.SX
