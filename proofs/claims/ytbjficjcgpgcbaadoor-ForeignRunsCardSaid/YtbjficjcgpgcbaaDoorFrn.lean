/- Records in memory, of package foreign (1) and of its reference (2). -/
import Derived.WalkKit
import Derived.Test.YtbjficjcgpgcbaaDoorFrm
namespace Go.Proofs.YtbjficjcgpgcbaaDoor.Frn
open Go Frm
set_option linter.unusedVariables false

/-! ### Data sets -/
def ks11 : List IntKind := [.i64, .i64, .i64, .i64, .i64, .u64, .i64, .u64, .i64, .u64, .i64]
def valsK : List IntKind → List Int → List Value
  | [], _ => []
  | k :: l, d => .int k (d.headD 0) :: valsK l d.tail
def fitsK : List IntKind → List Int → Prop
  | [], d => d = []
  | k :: l, d => (Lit.int k (d.headD 0)).wf = true ∧ d ≠ [] ∧ fitsK l d.tail
def dsVals (d : List Int) : List Value := valsK ks11 d
def ptrV (m : Nat) : Value := .pointer (some ⟨m, 0, none⟩)
def slV (b len cap : Nat) : Value := .slice (some ⟨b, 0, none⟩) len cap

/-! ### Records that may be -/
structure MsgOk (now : Int) (m : Msg) : Prop where
  fits : fitsK ks11 m.d
  lo : 0 ≤ m.t
  hi : m.t ≤ now
structure RsOk (s : FS) : Prop where
  win : 1 ≤ s.win ∧ s.win ≤ maxSim
  need : 1 ≤ s.need ∧ s.need ≤ 8
  now : 0 ≤ s.now ∧ s.now ≤ maxSim
  five : s.l.length ≤ 5
  some : ∀ r ∈ s.l, 1 ≤ r.length ∧ r.length ≤ 8
  msgs : ∀ r ∈ s.l, ∀ m ∈ r, MsgOk s.now m
  apart : s.l.Pairwise fun a b => org (lastM a).d ≠ org (lastM b).d

/-! ### In memory -/
/-- The program's view of a record: its last data set, its times. -/
abbrev RV := List Int × List Int
def viewA (r : List Msg) : RV := ((lastM r).d, r.map Msg.t)
def recV (r : RV) (t : Nat × Nat) : List Value := [.int .u64 (r.1.getD 7 0), .int .i64 (r.1.getD 8 0)] ++ dsVals r.1 ++ [slV t.1 r.2.length t.2]
/-- The blocks: the records' own, the list's, each record's, its times'. -/
structure LayA (win need now : Int) (l : List RV) (b lb lc : Nat) (ms : List Nat) (ts : List (Nat × Nat)) (w : World) : Prop where
  lm : ms.length = l.length
  lt : ts.length = l.length
  head : w.heap[b]? = some (.cells #[.int .i64 win, .int .i64 need, .int .i64 now, if l = [] then .slice none 0 0 else slV lb l.length lc] 54 (0, 0))
  list : l ≠ [] → ∃ rest, w.heap[lb]? = some (.cells (ms.map ptrV ++ rest).toArray 58 (0, 0)) ∧ l.length + rest.length = lc
  recs : ∀ (i : Nat) (r : RV) (m : Nat) (t : Nat × Nat), l[i]? = some r → ms[i]? = some m → ts[i]? = some t → w.heap[m]? = some (.cells (recV r t).toArray 63 (0, 0))
  tims : ∀ (i : Nat) (r : RV) (t : Nat × Nat), l[i]? = some r → ts[i]? = some t → ∃ rest, w.heap[t.1]? = some (.cells (r.2.map (Value.int .i64) ++ rest).toArray 3 (0, 0)) ∧ r.2.length + rest.length = t.2
  nodup : (b :: ((if l = [] then [] else [lb]) ++ (ms ++ ts.map (·.1)))).Nodup
def blksA (l : List RV) (b lb : Nat) (ms : List Nat) (ts : List (Nat × Nat)) : List Nat := b :: ((if l = [] then [] else [lb]) ++ (ms ++ ts.map (·.1)))
/-- The reference's records: each a row of messages. -/
def msgV (m : Msg) : List Value := dsVals m.d ++ [.int .i64 m.t]
def rowV (r : List Msg) (t : Nat × Nat × Nat) : Value := .slice (some ⟨t.1, t.2.1, none⟩) r.length t.2.2
/-- The blocks: the records' own, the list's, each record's row of messages: its block, where it begins in it, its room. -/
structure LayB (win need now : Int) (l : List (List Msg)) (b lb lc : Nat) (ts : List (Nat × Nat × Nat)) (w : World) : Prop where
  lt : ts.length = l.length
  head : w.heap[b]? = some (.cells #[.int .i64 win, .int .i64 need, if l = [] then .slice none 0 0 else slV lb l.length lc, .int .i64 now] 57 (0, 0))
  list : l ≠ [] → ∃ rest, w.heap[lb]? = some (.cells (List.zipWith rowV l ts ++ rest).toArray 67 (0, 0)) ∧ l.length + rest.length = lc
  msgs : ∀ (i : Nat) (r : List Msg) (t : Nat × Nat × Nat), l[i]? = some r → ts[i]? = some t → t.1 < w.heap.size ∧ r.length ≤ t.2.2 ∧ ∀ (j : Nat) (m : Msg), r[j]? = some m → ∀ g : Nat, g < 12 → w.cell? ⟨t.1, t.2.1 + (j * 12 + g), none⟩ = (msgV m)[g]?
  nodup : (b :: ((if l = [] then [] else [lb]) ++ ts.map (·.1))).Nodup
def blksB (l : List (List Msg)) (b lb : Nat) (ts : List (Nat × Nat × Nat)) : List Nat := b :: ((if l = [] then [] else [lb]) ++ ts.map (·.1))
def ObA (s : FS) (b : Nat) (φ : Nat → Prop) (w : World) : Prop := RsOk s ∧ ∃ lb lc ms ts, LayA s.win s.need s.now (s.l.map viewA) b lb lc ms ts w ∧ ∀ i, φ i ↔ i ∈ blksA (s.l.map viewA) b lb ms ts
def ObB (s : FS) (b : Nat) (φ : Nat → Prop) (w : World) : Prop := RsOk s ∧ ∃ lb lc ts, LayB s.win s.need s.now s.l b lb lc ts w ∧ ∀ i, φ i ↔ i ∈ blksB s.l b lb ts
def FrnOb (q : Nat) (vs : List Int) (b : Nat) (φ : Nat → Prop) (w : World) : Prop :=
  match q, vs with
  | 1, [x] => ∃ s, code s = x ∧ ObA s b φ w
  | 2, [x] => ∃ s, code s = x ∧ ObB s b φ w
  | _, _ => False
theorem blk_lt {w : World} {i : Nat} {o : Obj} (h : w.heap[i]? = some o) : i < w.heap.size := (Array.getElem?_eq_some_iff.1 h).1
section
variable {win need now : Int} {b lb lc : Nat} {ms : List Nat} {ts : List (Nat × Nat)} {w w' : World}
theorem LayA.lt_of {l : List RV} (h : LayA win need now l b lb lc ms ts w) {i : Nat} (hi : i ∈ blksA l b lb ms ts) : i < w.heap.size := by
  unfold blksA at hi
  simp only [List.mem_cons, List.mem_append] at hi
  rcases hi with rfl | hi | hi | hi
  · exact blk_lt h.head
  · split at hi
    · cases hi
    · rename_i hl
      obtain rfl := List.mem_singleton.1 hi
      obtain ⟨rest, h1, _⟩ := h.list hl
      exact blk_lt h1
  · obtain ⟨k, hk, rfl⟩ := List.getElem_of_mem hi
    have h1 : k < l.length := h.lm ▸ hk
    have h2 : k < ts.length := by rw [h.lt]; exact h1
    exact blk_lt (h.recs k _ _ _ (List.getElem?_eq_getElem h1) (List.getElem?_eq_getElem hk) (List.getElem?_eq_getElem h2))
  · obtain ⟨t, ht, rfl⟩ := List.mem_map.1 hi
    obtain ⟨k, hk, rfl⟩ := List.getElem_of_mem ht
    have h1 : k < l.length := h.lt ▸ hk
    obtain ⟨rest, h2, _⟩ := h.tims k _ _ (List.getElem?_eq_getElem h1) (List.getElem?_eq_getElem hk)
    exact blk_lt h2
theorem LayB.lt_of {l : List (List Msg)} {ts : List (Nat × Nat × Nat)} (h : LayB win need now l b lb lc ts w) {i : Nat} (hi : i ∈ blksB l b lb ts) : i < w.heap.size := by
  unfold blksB at hi
  simp only [List.mem_cons, List.mem_append] at hi
  rcases hi with rfl | hi | hi
  · exact blk_lt h.head
  · split at hi
    · cases hi
    · rename_i hl
      obtain rfl := List.mem_singleton.1 hi
      obtain ⟨rest, h1, _⟩ := h.list hl
      exact blk_lt h1
  · obtain ⟨t, ht, rfl⟩ := List.mem_map.1 hi
    obtain ⟨k, hk, rfl⟩ := List.getElem_of_mem ht
    have h1 : k < l.length := h.lt ▸ hk
    exact (h.msgs k _ _ (List.getElem?_eq_getElem h1) (List.getElem?_eq_getElem hk)).1
theorem cell_congr {w w' : World} {b o : Nat} (h : w'.heap[b]? = w.heap[b]?) : w'.cell? ⟨b, o, none⟩ = w.cell? ⟨b, o, none⟩ := by
  unfold World.cell?
  simp only [h]
theorem LayA.keep {l : List RV} (h : LayA win need now l b lb lc ms ts w) (hk : ∀ i, i ∈ blksA l b lb ms ts → w'.heap[i]? = w.heap[i]?) : LayA win need now l b lb lc ms ts w' := by
  have hmem : ∀ i, (i = b ∨ (l ≠ [] ∧ i = lb) ∨ i ∈ ms ∨ i ∈ ts.map (·.1)) → w'.heap[i]? = w.heap[i]? := fun i hi => hk i (by
    unfold blksA
    simp only [List.mem_cons, List.mem_append]
    rcases hi with h | ⟨h1, h⟩ | h | h
    · exact .inl h
    · rw [if_neg h1]; exact .inr (.inl (List.mem_singleton.2 h))
    · exact .inr (.inr (.inl h))
    · exact .inr (.inr (.inr h)))
  refine ⟨h.lm, h.lt, ?_, fun hl => ?_, fun i r m t h1 h2 h3 => ?_, fun i r t h1 h2 => ?_, h.nodup⟩
  · rw [hmem b (.inl rfl)]; exact h.head
  · rw [hmem lb (.inr (.inl ⟨hl, rfl⟩))]; exact h.list hl
  · rw [hmem m (.inr (.inr (.inl (List.mem_of_getElem? h2))))]; exact h.recs i r m t h1 h2 h3
  · rw [hmem t.1 (.inr (.inr (.inr (List.mem_map.2 ⟨t, List.mem_of_getElem? h2, rfl⟩))))]; exact h.tims i r t h1 h2
theorem LayB.keep {l : List (List Msg)} {ts : List (Nat × Nat × Nat)} (h : LayB win need now l b lb lc ts w) (hk : ∀ i, i ∈ blksB l b lb ts → w'.heap[i]? = w.heap[i]?) : LayB win need now l b lb lc ts w' := by
  have hmem : ∀ i, (i = b ∨ (l ≠ [] ∧ i = lb) ∨ i ∈ ts.map (·.1)) → w'.heap[i]? = w.heap[i]? := fun i hi => hk i (by
    unfold blksB
    simp only [List.mem_cons, List.mem_append]
    rcases hi with h | ⟨h1, h⟩ | h
    · exact .inl h
    · rw [if_neg h1]; exact .inr (.inl (List.mem_singleton.2 h))
    · exact .inr (.inr h))
  refine ⟨h.lt, ?_, fun hl => ?_, fun i r t h1 h2 => ?_, h.nodup⟩
  · rw [hmem b (.inl rfl)]; exact h.head
  · rw [hmem lb (.inr (.inl ⟨hl, rfl⟩))]; exact h.list hl
  · have e := hmem t.1 (.inr (.inr (List.mem_map.2 ⟨t, List.mem_of_getElem? h2, rfl⟩)))
    obtain ⟨m1, m2, m3⟩ := h.msgs i r t h1 h2
    refine ⟨?_, m2, fun j m hj g hg => by rw [cell_congr e]; exact m3 j m hj g hg⟩
    rw [Array.getElem?_eq_getElem m1] at e
    exact blk_lt e
end
theorem FrnOb_lt {q : Nat} {vs : List Int} {b : Nat} {φ : Nat → Prop} {w : World} (h : FrnOb q vs b φ w) : ∀ i, φ i → i < w.heap.size := by
  unfold FrnOb at h
  split at h
  · obtain ⟨s, _, _, lb, lc, ms, ts, h1, h2⟩ := h
    exact fun i hi => h1.lt_of ((h2 i).1 hi)
  · obtain ⟨s, _, _, lb, lc, ts, h1, h2⟩ := h
    exact fun i hi => h1.lt_of ((h2 i).1 hi)
  · exact h.elim
theorem FrnOb_keep {q : Nat} {vs : List Int} {b : Nat} {φ : Nat → Prop} {w w' : World} (h : FrnOb q vs b φ w) (hk : ∀ i, φ i → w'.heap[i]? = w.heap[i]?) : FrnOb q vs b φ w' := by
  unfold FrnOb at h ⊢
  split at h
  · obtain ⟨s, e, ho, lb, lc, ms, ts, h1, h2⟩ := h
    exact ⟨s, e, ho, lb, lc, ms, ts, h1.keep fun i hi => hk i ((h2 i).2 hi), h2⟩
  · obtain ⟨s, e, ho, lb, lc, ts, h1, h2⟩ := h
    exact ⟨s, e, ho, lb, lc, ts, h1.keep fun i hi => hk i ((h2 i).2 hi), h2⟩
  · exact h.elim
end Go.Proofs.YtbjficjcgpgcbaaDoor.Frn
