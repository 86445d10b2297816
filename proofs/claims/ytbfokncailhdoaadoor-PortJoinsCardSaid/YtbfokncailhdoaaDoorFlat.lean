/- Flat data: what a struct of plain fields, or a slice of such, that can be read holds, cell for cell. Of no program. -/
import Derived.Test.YtbfokncailhdoaaDoorGen
namespace Go.Proofs.YtbfokncailhdoaaDoor
open Go.ChangeShapes Go.WideShapes Go.ChangeAt Go.RowKit Go.Deep

/-- A cell of a plain type. -/
def Leaf (P : Program) (t : TypeId) (v : Value) : Prop :=
  match P.underlying t with
  | some .bool => ∃ b, v = .bool b
  | some (.int k) => ∃ n, v = .int k n ∧ (Lit.int k n).wf = true
  | some .string => ∃ s, v = .string s ∧ s.size ≤ maxLen
  | _ => False

theorem Leaf.bool {P : Program} {t : TypeId} {v : Value} (ht : P.underlying t = some .bool) (h : Leaf P t v) : ∃ b, v = .bool b := by
  unfold Leaf at h; rw [ht] at h; exact h
theorem Leaf.int {P : Program} {t : TypeId} {k : IntKind} {v : Value} (ht : P.underlying t = some (.int k)) (h : Leaf P t v) : ∃ n, v = .int k n ∧ (Lit.int k n).wf = true := by
  unfold Leaf at h; rw [ht] at h; exact h

inductive All2 {α β : Type} (R : α → β → Prop) : List α → List β → Prop where
  | nil : All2 R [] []
  | cons {a b as bs} : R a b → All2 R as bs → All2 R (a :: as) (b :: bs)
theorem All2.append {α β : Type} {R : α → β → Prop} {as as' : List α} {bs bs' : List β} (h : All2 R as bs) (h' : All2 R as' bs') : All2 R (as ++ as') (bs ++ bs') := by
  induction h with
  | nil => exact h'
  | cons hr _ ih => exact .cons hr ih
theorem All2.length {α β : Type} {R : α → β → Prop} {as : List α} {bs : List β} (h : All2 R as bs) : as.length = bs.length := by
  induction h with
  | nil => rfl
  | cons _ _ ih => simp [ih]

def flatFs (P : Program) (rec : TypeId → Option (List TypeId)) : Nat → List Field → Option (List TypeId)
  | _, [] => some []
  | off, f :: fs => match rec f.type with
    | some ts => if f.offset = off ∧ P.cellsOf f.type = ts.length then (flatFs P rec (off + ts.length) fs).map (ts ++ ·) else none
    | none => none
/-- The cells' types of a plain type. -/
def flatTs (P : Program) : Nat → TypeId → Option (List TypeId)
  | 0, _ => none
  | n + 1, t => match P.underlying t with
    | some .bool | some (.int _) | some .string => some [t]
    | some (.struct fs) => match flatFs P (flatTs P n) 0 fs.toList with
      | some ts => if P.cellsOf t = ts.length then some ts else none
      | none => none
    | _ => none

section
variable {H : Type} {enc : TypeId × Value → H} {P : Program} {w : World} {base : Nat} {sp : Nat → Bool} {held : Bool}

theorem flatFs_of {rec : TypeId → Option (List TypeId)} {cs : List Value} (hrec : ∀ t ts cs', rec t = some ts → (∃ fuel x, DataW.trod enc P w base sp held fuel t cs' = some x) → All2 (Leaf P) ts cs') :
    ∀ (fs : List Field) (off : Nat) (ts : List TypeId), flatFs P rec off fs = some ts → off + ts.length ≤ cs.length →
      (∀ f ∈ fs, ∃ fuel x, DataW.trod enc P w base sp held fuel f.type ((cs.drop f.offset).take (P.cellsOf f.type)) = some x) → All2 (Leaf P) ts ((cs.drop off).take ts.length)
  | [], off, ts, h, _, _ => by
    simp [flatFs] at h
    subst h
    simpa using All2.nil
  | f :: fs, off, ts, h, hl, hf => by
    unfold flatFs at h
    cases hr : rec f.type with
    | none => simp [hr] at h
    | some t1 =>
      simp only [hr] at h
      split at h
      · rename_i hc
        obtain ⟨ho, hn⟩ := hc
        cases h2 : flatFs P rec (off + t1.length) fs with
        | none => simp [h2] at h
        | some t2 =>
          simp only [h2, Option.map_some, Option.some.injEq] at h
          subst h
          have h1 := hrec _ _ _ hr (hf f (List.mem_cons_self ..))
          rw [ho, hn] at h1
          have h3 := flatFs_of hrec fs (off + t1.length) t2 h2 (by simpa [Nat.add_assoc] using hl) (fun g hg => hf g (List.mem_cons_of_mem _ hg))
          have e : (cs.drop off).take (t1 ++ t2).length = (cs.drop off).take t1.length ++ (cs.drop (off + t1.length)).take t2.length := by
            rw [List.length_append, List.take_add, List.drop_drop]
          rw [e]
          exact h1.append h3
      · cases h

theorem flat_of_trod : ∀ (n : Nat) (t : TypeId) (ts : List TypeId) (cs : List Value), flatTs P n t = some ts → (∃ fuel x, DataW.trod enc P w base sp held fuel t cs = some x) → All2 (Leaf P) ts cs
  | 0, _, _, _, h, _ => by simp [flatTs] at h
  | n + 1, t, ts, cs, h, ⟨fuel, x, hx⟩ => by
    unfold flatTs at h
    cases hu : P.underlying t with
    | none => simp [hu] at h
    | some d =>
      rw [hu] at h
      cases d with
      | bool =>
        simp only [Option.some.injEq] at h
        subst h
        obtain ⟨b, rfl, _⟩ := DataW.trod_bool hu hx
        exact .cons (by unfold Leaf; rw [hu]; exact ⟨_, rfl⟩) .nil
      | int k =>
        simp only [Option.some.injEq] at h
        subst h
        obtain ⟨m, rfl, _, hw⟩ := DataW.trod_int hu hx
        exact .cons (by unfold Leaf; rw [hu]; exact ⟨_, rfl, hw⟩) .nil
      | string =>
        simp only [Option.some.injEq] at h
        subst h
        obtain ⟨m, rfl, _, hw⟩ := DataW.trod_string hu hx
        exact .cons (by unfold Leaf; rw [hu]; exact ⟨_, rfl, hw⟩) .nil
      | struct fs =>
        simp only at h
        cases hf : flatFs P (flatTs P n) 0 fs.toList with
        | none => simp [hf] at h
        | some t1 =>
          simp only [hf] at h
          split at h
          · rename_i hc
            simp only [Option.some.injEq] at h
            subst h
            obtain ⟨xs, m, _, _, hlen, hxl, hg⟩ := DataW.trod_struct hu hx
            have hall := flatFs_of (enc := enc) (w := w) (base := base) (sp := sp) (held := held) (cs := cs) (fun t ts cs' => flat_of_trod n t ts cs') fs.toList 0 t1 hf (by omega) (fun f hm => by
              obtain ⟨i, hi, rfl⟩ := List.getElem_of_mem hm
              have hi' : i < fs.size := by simpa using hi
              have := hg i fs[i] (Array.getElem?_eq_getElem hi')
              have hxs : xs[i]? = some (xs[i]'(by omega)) := List.getElem?_eq_getElem (by omega)
              exact ⟨m, _, by rw [hxs] at this; simpa using this⟩)
            rw [List.drop_zero, List.take_of_length_le (by omega)] at hall
            exact hall
          · cases h
      | _ => simp at h

/-- A struct of plain fields by value. -/
theorem open_flat {r : Reach} {b0 : Nat} {t : TypeId} {fs : Array Field} {v : Value} {d : DataW H} {p : List MemPlace} {n : Nat} {ts : List TypeId} (hs : P.underlying t = some (.struct fs)) (hf : flatTs P n t = some ts)
    (hv : Value.okWide P w r b0 t v) (h : DataW.Trod enc P w base sp held t v d p) : ∃ cs : List Value, v = .agg cs.toArray ∧ All2 (Leaf P) ts cs := by
  obtain ⟨cs, rfl, _⟩ := okWide_struct hs hv
  obtain ⟨fuel, hx⟩ := h
  obtain ⟨l⟩ := cs
  exact ⟨l, rfl, flat_of_trod n t ts _ hf ⟨fuel, _, by simpa [Value.cells] using hx⟩⟩

/-- A slice of structs of plain fields. -/
theorem open_slice_flat {r : Reach} {b0 : Nat} {t e : TypeId} {v : Value} {d : DataW H} {p : List MemPlace} {n : Nat} {ts : List TypeId} (ht : P.underlying t = some (.slice e)) (hf : flatTs P n e = some ts) (hC : P.cellsOf e = ts.length) (h0 : 0 < ts.length)
    (hv : Value.okWide P w r b0 t v) (h : DataW.Trod enc P w base sp held t v d p) :
    ∃ (A : Option Addr) (len cap : Nat) (xs : List (List Value)), v = .slice A len cap ∧ xs.length = len ∧ len ≤ cap ∧ cap ≤ maxLen ∧ (A = none → cap = 0) ∧ Sl w w.heap.size ts.length A xs ∧ ∀ x ∈ xs, All2 (Leaf P) ts x := by
  obtain ⟨fuel, hx⟩ := h
  obtain ⟨a0, len, cap, rfl⟩ := okWide_slice ht hv
  have hx' : DataW.trod enc P w base sp held fuel t [.slice a0 len cap] = some (d, p) := by simpa [Value.cells] using hx
  rcases open_slice ht hx' with ⟨hcs, _⟩ | ⟨a, len', cap', m, k, D, Pl, hcs, hb, hl, hm, hmm, hxx, hi⟩
  · simp only [List.cons.injEq, Value.slice.injEq, and_true] at hcs
    obtain ⟨rfl, rfl, rfl⟩ := hcs
    exact ⟨none, 0, 0, [], rfl, rfl, Nat.le_refl _, by simp [maxLen], fun _ => rfl, Sl.nil, fun x hx => by cases hx⟩
  · simp only [List.cons.injEq, Value.slice.injEq, and_true] at hcs
    obtain ⟨rfl, rfl, rfl⟩ := hcs
    have hspot : a.spot = none := by
      unfold Value.okWide at hv
      rw [ht] at hv
      simp only [Cell.okWide, ht, Cell.ok] at hv
      exact hv.2.2.2.1
    obtain ⟨b, off, s⟩ := a
    simp only at hspot
    subst hspot
    have hlm : len ≤ m := by rw [hmm]; split <;> omega
    have key : ∀ i, i < len → ∃ x : List Value, All2 (Leaf P) ts x ∧ ∀ (j : Nat) (u : Value), x[j]? = some u → w.cell? ⟨b, off + i * ts.length + j, none⟩ = some u := by
      intro i hil
      obtain ⟨cs', hc, ht'⟩ := hi i (by omega)
      obtain ⟨_, hcl, hat⟩ := World.cells?_some hc
      refine ⟨cs', flat_of_trod n e ts cs' hf ⟨k, _, ht'⟩, fun j u hu => ?_⟩
      have hj : j < P.cellsOf e := by rw [← hcl]; exact (List.getElem?_eq_some_iff.1 hu).1
      have := hat j hj
      rw [hu] at this
      have e1 : ((⟨b, off, none⟩ : Addr).add (i * P.cellsOf e)).add j = ⟨b, off + i * ts.length + j, none⟩ := by
        unfold Addr.add
        rw [hC]
        split <;> split <;> simp_all
      rwa [e1] at this
    have build : ∀ q, q ≤ len → ∃ xs : List (List Value), xs.length = q ∧ (∀ x ∈ xs, All2 (Leaf P) ts x) ∧ ∀ (i : Nat) (x : List Value), xs[i]? = some x → ∀ (j : Nat) (u : Value), x[j]? = some u → w.cell? ⟨b, off + i * ts.length + j, none⟩ = some u := by
      intro q
      induction q with
      | zero => exact fun _ => ⟨[], rfl, fun x hx => by (cases hx), fun i x hx => by simp at hx⟩
      | succ q ih =>
        intro hq
        obtain ⟨xs, hl1, hall, hcell⟩ := ih (by omega)
        obtain ⟨x, hx1, hx2⟩ := key q (by omega)
        refine ⟨xs ++ [x], by simp [hl1], fun y hy => ?_, fun i y hy => ?_⟩
        · rcases List.mem_append.1 hy with h | h
          · exact hall y h
          · simp at h; subst h; exact hx1
        · by_cases hiq : i < q
          · rw [List.getElem?_append_left (by omega)] at hy
            exact hcell i y hy
          · by_cases he : i = q
            · subst he
              rw [List.getElem?_append_right (by omega)] at hy
              simp [hl1] at hy
              subst hy
              exact hx2
            · rw [List.getElem?_eq_none (by simp; omega)] at hy
              cases hy
    obtain ⟨xs, hl1, hall, hcell⟩ := build len (Nat.le_refl _)
    refine ⟨some ⟨b, off, none⟩, len, cap, xs, rfl, hl1, hl, hm, fun h => (by cases h), fun hpos => ⟨b, off, rfl, ?_, hcell⟩, hall⟩
    have h1 : All2 (Leaf P) ts xs[0] := hall _ (List.getElem_mem _)
    have hlen := h1.length
    have := hcell 0 xs[0] (List.getElem?_eq_getElem hpos) 0 (xs[0][0]'(by omega)) (List.getElem?_eq_getElem (by omega))
    exact block_lt_of_cell this

/-- Lists whose members are all of a form. -/
theorem all_map {α β : Type} {f : α → β} {Q : α → Prop} : ∀ (xs : List β), (∀ x ∈ xs, ∃ a, x = f a ∧ Q a) → ∃ l : List α, xs = l.map f ∧ ∀ a ∈ l, Q a
  | [], _ => ⟨[], rfl, fun _ h => by cases h⟩
  | x :: xs, h => by
    obtain ⟨a, rfl, ha⟩ := h x (List.mem_cons_self ..)
    obtain ⟨l, rfl, hl⟩ := all_map xs (fun y hy => h y (List.mem_cons_of_mem _ hy))
    exact ⟨a :: l, rfl, fun b hb => by
      rcases List.mem_cons.1 hb with rfl | hb
      · exact ha
      · exact hl b hb⟩
end
end Go.Proofs.YtbfokncailhdoaaDoor
