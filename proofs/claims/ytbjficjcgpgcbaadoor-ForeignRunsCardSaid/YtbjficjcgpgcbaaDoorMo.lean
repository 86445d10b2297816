/- General lemmas of rows, flat data, listed variables; of no program. -/
import Derived.WalkKit
import Derived.ProofKit
import Derived.LaidMore
import Derived.Stop.Joined
import Derived.Below
import Derived.Deep.Slices
import Derived.Deep.Fields
import Derived.Deep.Draws
import Derived.OpenShut
import Derived.LaidByTextLater
import Derived.SevenTiedAt
namespace Go.Proofs.YtbjficjcgpgcbaaDoor
open Go.ChangeShapes Go.WideShapes Go.ChangeAt Go.RowKit Go.Deep

theorem ret_int {k : IntKind} {a b : Int} (h : a = b) : Ending.returned (.int k a) = .returned (.int k b) := by rw [h]
theorem ret_bool {a b : Bool} (h : a = b) : Ending.returned (.bool a) = .returned (.bool b) := by rw [h]

theorem bcell {W w1 : World} (hb : Below W.heap.size W w1) : (∀ b o, b < W.heap.size → w1.cell? ⟨b, o, none⟩ = W.cell? ⟨b, o, none⟩) ∧ (∀ b o, b < W.heap.size → w1.frozen? ⟨b, o, none⟩ = W.frozen? ⟨b, o, none⟩) :=
  ⟨fun b o h => hb.cell (p := ⟨b, o, none⟩) h, fun b o h => hb.frozen (p := ⟨b, o, none⟩) h⟩

/-- A slice's elements lie in memory below block B: element i's cells stand one behind the other from 'off + i * sz' on. -/
def Sl (w : World) (B sz : Nat) (A : Option Addr) (xs : List (List Value)) : Prop :=
  0 < xs.length → ∃ b off, A = some ⟨b, off, none⟩ ∧ b < B ∧ ∀ (i : Nat) (x : List Value), xs[i]? = some x → ∀ (j : Nat) (u : Value), x[j]? = some u → w.cell? ⟨b, off + i * sz + j, none⟩ = some u
theorem Sl.nil {w : World} {B sz : Nat} {A : Option Addr} : Sl w B sz A [] := fun h => absurd h (by simp)
theorem Sl.keep {w w' : World} {B sz : Nat} {A : Option Addr} {xs : List (List Value)} (h : Sl w B sz A xs) (hk : ∀ b o, b < B → w'.cell? ⟨b, o, none⟩ = w.cell? ⟨b, o, none⟩) : Sl w' B sz A xs := fun h0 =>
  let ⟨b, off, e, hb, hc⟩ := h h0
  ⟨b, off, e, hb, fun i x hx j u hu => (hk b _ hb).trans (hc i x hx j u hu)⟩
theorem Sl.more {w : World} {B B' sz : Nat} {A : Option Addr} {xs : List (List Value)} (h : Sl w B sz A xs) (hB : B ≤ B') : Sl w B' sz A xs := fun h0 =>
  let ⟨b, off, e, hb, hc⟩ := h h0
  ⟨b, off, e, by omega, hc⟩
theorem Sl.below {w w' : World} {B sz : Nat} {A : Option Addr} {xs : List (List Value)} (h : Sl w B sz A xs) (hb : Below B w w') : Sl w' B sz A xs :=
  h.keep fun b o hb' => hb.cell (p := ⟨b, o, none⟩) hb'
theorem Sl.take {w : World} {B sz : Nat} {A : Option Addr} {xs : List (List Value)} (h : Sl w B sz A xs) (n : Nat) : Sl w B sz A (xs.take n) := fun h0 => by
  obtain ⟨b, off, e, hb, hc⟩ := h (by simp at h0; omega)
  refine ⟨b, off, e, hb, fun i x hx => hc i x ?_⟩
  rw [List.getElem?_take] at hx
  split at hx
  · exact hx
  · cases hx

section
variable {H : Type} {enc : TypeId × Value → H} {P : Program}

/-- All arguments read again behind a call that made new memory alone. -/
theorem Below.trodAll {W W' : World} (hl : laidOutB P = true) (hb : Below W.heap.size W W') : ∀ {ts : List TypeId} {vs : List Value} {ds : List (DataW H)} {ps : List MemPlace},
    (∀ t ∈ ts, P.readableRec t = true ∧ t < P.types.size) → DataW.TrodAll enc P W 0 (fun _ => true) true ts vs ds ps → (∀ x ∈ ps, x.block < W.heap.size) →
    ∀ sp : Nat → Bool, (∀ p ∈ ps, sp p.block = true) → DataW.TrodAll enc P W' 0 sp true ts vs ds ps
  | [], [], [], _, _, h, _, _, _ => h
  | t :: ts, v :: vs, d :: ds, _, hts, ⟨p, q, h0, h1, e⟩, hlt, sp, hsp => by
    subst e
    refine ⟨p, q, ?_, Below.trodAll hl hb (fun t ht => hts t (List.mem_cons_of_mem _ ht)) h1 (fun x hx => hlt x (List.mem_append_right _ hx)) sp (fun x hx => hsp x (List.mem_append_right _ hx)), rfl⟩
    obtain ⟨hr, hrow⟩ := hts t (List.mem_cons_self ..)
    exact WideElems.Trod_stays hl hr hrow h0 (fun x hx => hb.same (hlt x (List.mem_append_left _ hx))) (fun x hx => hsp x (List.mem_append_left _ hx))
  | [], [], _ :: _, _, _, h, _, _, _ => h.elim
  | [], _ :: _, _, _, _, h, _, _, _ => h.elim
  | _ :: _, [], _, _, _, h, _, _, _ => h.elim
  | _ :: _, _ :: _, [], _, _, h, _, _, _ => h.elim

/-- What a call must do to pay a law's row: it returns true, and only new memory is made. -/
def Pays (P : Program) (F : FuncId) (args : Array Value) (W : World) : Prop := Calls P F args W fun e W' => e = .returned (.bool true) ∧ Below W.heap.size W W'

/-- A law's row, out of the walk of its call. -/
theorem law_lifted {C : Checked} {os : Os} {F : FuncId} {fn : Func} {s : ChangeSpec} {tb : TypeId} (X : World → Prop)
    (hX : ∀ w w' : World, w.heap = w'.heap → X w → X w')
    (hout : laidOutB C.prog = true) (own : ownKnob C.prog.godebug = none) (started : os.Started) (noInit : C.prog.inits.idxOf? F = none) (hfn : C.prog.funcs[F]? = some fn)
    (hvars : s.vars = []) (hspec : ∀ ds : List (DataW H), ds.length = fn.params.size → s.fn H (ds ++ []) = { results := [.lit (.bool true)], args := ds })
    (hres : fn.resultTypes = #[tb]) (hb : C.prog.underlying tb = some .bool) (hparams : (fn.params.toList.all fun t => C.prog.readableRec t && decide (t < C.prog.types.size)) = true)
    (witness : ∃ (w : World) (tape : Tape) (i : Input), w.os = os ∧ (w.forCall tape i).Shaped C.prog ∧ i.vars = [] ∧ Input.okWide C.prog (w.forCall tape i) .any w.heap.size F i ∧
      ((s.pre enc C.prog fn [] false (w.forCall tape i).memory i.args ∧ X (w.forCall tape i).memory) ∧ sizedMet enc C.prog fn (OpenSpec.ofChange s) false (w.forCall tape i).memory i.args) ∧ Assume.holds {} C.prog (lone (Frame.enter C.prog F i.args .normal) [] (w.forCall tape i)))
    (walk : ∀ (W : World) (base : Nat) (args : Array Value) (ds : List (DataW H)) (p : List MemPlace),
      (∀ (j : Nat) t v, fn.params[j]? = some t → args[j]? = some v → Value.okWide C.prog W .any base t v) →
      DataW.TrodAll enc C.prog W 0 (fun _ => true) true fn.params.toList args.toList ds p → (∀ x ∈ p, x.block < W.heap.size) → X W → Pays C.prog F args W) :
    ReturnsInHanded {} C os F .any (fun w args => (s.pre enc C.prog fn [] false w args ∧ X w) ∧ sizedMet enc C.prog fn (OpenSpec.ofChange s) false w args) (s.post enc C.prog fn false true false false) := by
  refine returnsInHanded_of_change_and (C := C) (X := fun w _ => X w) (fun w w' _ hh h => hX w w' hh h) own started noInit hfn witness ?_
  intro W base args ds gs before hval hW _ _ hL _
  have hW' := hW
  obtain ⟨p, q, hA, hV, rfl, _, _⟩ := hW
  obtain ⟨rfl, rfl⟩ : gs = [] ∧ q = [] := by
    rw [hvars] at hV
    exact trodVars_none hV
  have hlt : ∀ x ∈ p, x.block < W.heap.size := fun x hx => hW'.lt x (by simpa using hx)
  have hlen : ds.length = fn.params.size := by
    have : ∀ (ts : List TypeId) (vs : List Value) (ds : List (DataW H)) (ps : List MemPlace), DataW.TrodAll enc C.prog W 0 (fun _ => true) true ts vs ds ps → ds.length = ts.length := by
      intro ts
      induction ts with
      | nil => intro vs ds ps h; cases vs <;> cases ds <;> first | rfl | exact h.elim
      | cons t ts ih =>
        intro vs ds ps h
        cases vs with
        | nil => cases ds <;> exact h.elim
        | cons v vs =>
          cases ds with
          | nil => exact h.elim
          | cons d ds => obtain ⟨_, _, _, h1, _⟩ := h; simp [ih _ _ _ h1]
    simpa using this _ _ _ _ hA
  refine (walk W base args ds p hval hA hlt hL).mono fun e W' ⟨he, hg⟩ => ?_
  subst he
  refine ⟨_, rfl, ds, [], p ++ [], [], p, [], hW', ?_, ?_, ?_, ?_, fun h => by cases h⟩
  · rw [hspec ds hlen, hres]
    exact trodAll_mk1 (shut_bool hb true)
  · rw [hspec ds hlen]
    exact Below.trodAll hout hg (fun t ht => by simpa using List.all_eq_true.1 hparams t ht) hA hlt _ (fun x hx => by simpa using hlt x hx)
  · rw [hspec ds hlen, hvars]
    rfl
  · exact World.keptBut_mono (fun x hx => ⟨hx, Or.inr (Or.inl (by simpa using hx))⟩) (hg.frame (· ∈ p ++ []))

end
end Go.Proofs.YtbjficjcgpgcbaaDoor
namespace Go.Proofs.YtbjficjcgpgcbaaDoor
open Go.ChangeShapes Go.WideShapes Go.ChangeAt Go.RowKit Go.Deep

/-- A cell of a plain type. -/
def Leaf (P : Program) (t : TypeId) (v : Value) : Prop :=
  match P.underlying t with
  | some .bool => ∃ b, v = .bool b
  | some (.int k) => ∃ n, v = .int k n ∧ (Lit.int k n).wf = true
  | some .string => ∃ s, v = .string s ∧ s.size ≤ maxLen
  | _ => False

theorem Leaf.bool {P : Program} {t : TypeId} {v : Value} (ht : P.underlying t = some .bool) (h : Leaf P t v) : ∃ b, v = .bool b := by
  unfold Leaf at h; rw [ht] at h; exact h
theorem Leaf.int {P : Program} {t : TypeId} {k : IntKind} {v : Value} (ht : P.underlying t = some (.int k)) (h : Leaf P t v) : ∃ n, v = .int k n ∧ (Lit.int k n).wf = true := by
  unfold Leaf at h; rw [ht] at h; exact h

inductive All2 {α β : Type} (R : α → β → Prop) : List α → List β → Prop where
  | nil : All2 R [] []
  | cons {a b as bs} : R a b → All2 R as bs → All2 R (a :: as) (b :: bs)
theorem All2.append {α β : Type} {R : α → β → Prop} {as as' : List α} {bs bs' : List β} (h : All2 R as bs) (h' : All2 R as' bs') : All2 R (as ++ as') (bs ++ bs') := by
  induction h with
  | nil => exact h'
  | cons hr _ ih => exact .cons hr ih
theorem All2.length {α β : Type} {R : α → β → Prop} {as : List α} {bs : List β} (h : All2 R as bs) : as.length = bs.length := by
  induction h with
  | nil => rfl
  | cons _ _ ih => simp [ih]

def flatFs (P : Program) (rec : TypeId → Option (List TypeId)) : Nat → List Field → Option (List TypeId)
  | _, [] => some []
  | off, f :: fs => match rec f.type with
    | some ts => if f.offset = off ∧ P.cellsOf f.type = ts.length then (flatFs P rec (off + ts.length) fs).map (ts ++ ·) else none
    | none => none
/-- The cells' types of a plain type. -/
def flatTs (P : Program) : Nat → TypeId → Option (List TypeId)
  | 0, _ => none
  | n + 1, t => match P.underlying t with
    | some .bool | some (.int _) | some .string => some [t]
    | some (.struct fs) => match flatFs P (flatTs P n) 0 fs.toList with
      | some ts => if P.cellsOf t = ts.length then some ts else none
      | none => none
    | _ => none

section
variable {H : Type} {enc : TypeId × Value → H} {P : Program} {w : World} {base : Nat} {sp : Nat → Bool} {held : Bool}

theorem flatFs_of {rec : TypeId → Option (List TypeId)} {cs : List Value} (hrec : ∀ t ts cs', rec t = some ts → (∃ fuel x, DataW.trod enc P w base sp held fuel t cs' = some x) → All2 (Leaf P) ts cs') :
    ∀ (fs : List Field) (off : Nat) (ts : List TypeId), flatFs P rec off fs = some ts → off + ts.length ≤ cs.length →
      (∀ f ∈ fs, ∃ fuel x, DataW.trod enc P w base sp held fuel f.type ((cs.drop f.offset).take (P.cellsOf f.type)) = some x) → All2 (Leaf P) ts ((cs.drop off).take ts.length)
  | [], off, ts, h, _, _ => by
    simp [flatFs] at h
    subst h
    simpa using All2.nil
  | f :: fs, off, ts, h, hl, hf => by
    unfold flatFs at h
    cases hr : rec f.type with
    | none => simp [hr] at h
    | some t1 =>
      simp only [hr] at h
      split at h
      · rename_i hc
        obtain ⟨ho, hn⟩ := hc
        cases h2 : flatFs P rec (off + t1.length) fs with
        | none => simp [h2] at h
        | some t2 =>
          simp only [h2, Option.map_some, Option.some.injEq] at h
          subst h
          have h1 := hrec _ _ _ hr (hf f (List.mem_cons_self ..))
          rw [ho, hn] at h1
          have h3 := flatFs_of hrec fs (off + t1.length) t2 h2 (by simpa [Nat.add_assoc] using hl) (fun g hg => hf g (List.mem_cons_of_mem _ hg))
          have e : (cs.drop off).take (t1 ++ t2).length = (cs.drop off).take t1.length ++ (cs.drop (off + t1.length)).take t2.length := by
            rw [List.length_append, List.take_add, List.drop_drop]
          rw [e]
          exact h1.append h3
      · cases h

theorem flat_of_trod : ∀ (n : Nat) (t : TypeId) (ts : List TypeId) (cs : List Value), flatTs P n t = some ts → (∃ fuel x, DataW.trod enc P w base sp held fuel t cs = some x) → All2 (Leaf P) ts cs
  | 0, _, _, _, h, _ => by simp [flatTs] at h
  | n + 1, t, ts, cs, h, ⟨fuel, x, hx⟩ => by
    unfold flatTs at h
    cases hu : P.underlying t with
    | none => simp [hu] at h
    | some d =>
      rw [hu] at h
      cases d with
      | bool =>
        simp only [Option.some.injEq] at h
        subst h
        obtain ⟨b, rfl, _⟩ := DataW.trod_bool hu hx
        exact .cons (by unfold Leaf; rw [hu]; exact ⟨_, rfl⟩) .nil
      | int k =>
        simp only [Option.some.injEq] at h
        subst h
        obtain ⟨m, rfl, _, hw⟩ := DataW.trod_int hu hx
        exact .cons (by unfold Leaf; rw [hu]; exact ⟨_, rfl, hw⟩) .nil
      | string =>
        simp only [Option.some.injEq] at h
        subst h
        obtain ⟨m, rfl, _, hw⟩ := DataW.trod_string hu hx
        exact .cons (by unfold Leaf; rw [hu]; exact ⟨_, rfl, hw⟩) .nil
      | struct fs =>
        simp only at h
        cases hf : flatFs P (flatTs P n) 0 fs.toList with
        | none => simp [hf] at h
        | some t1 =>
          simp only [hf] at h
          split at h
          · rename_i hc
            simp only [Option.some.injEq] at h
            subst h
            obtain ⟨xs, m, _, _, hlen, hxl, hg⟩ := DataW.trod_struct hu hx
            have hall := flatFs_of (enc := enc) (w := w) (base := base) (sp := sp) (held := held) (cs := cs) (fun t ts cs' => flat_of_trod n t ts cs') fs.toList 0 t1 hf (by omega) (fun f hm => by
              obtain ⟨i, hi, rfl⟩ := List.getElem_of_mem hm
              have hi' : i < fs.size := by simpa using hi
              have := hg i fs[i] (Array.getElem?_eq_getElem hi')
              have hxs : xs[i]? = some (xs[i]'(by omega)) := List.getElem?_eq_getElem (by omega)
              exact ⟨m, _, by rw [hxs] at this; simpa using this⟩)
            rw [List.drop_zero, List.take_of_length_le (by omega)] at hall
            exact hall
          · cases h
      | _ => simp at h

/-- A struct of plain fields by value. -/
theorem open_flat {r : Reach} {b0 : Nat} {t : TypeId} {fs : Array Field} {v : Value} {d : DataW H} {p : List MemPlace} {n : Nat} {ts : List TypeId} (hs : P.underlying t = some (.struct fs)) (hf : flatTs P n t = some ts)
    (hv : Value.okWide P w r b0 t v) (h : DataW.Trod enc P w base sp held t v d p) : ∃ cs : List Value, v = .agg cs.toArray ∧ All2 (Leaf P) ts cs := by
  obtain ⟨cs, rfl, _⟩ := okWide_struct hs hv
  obtain ⟨fuel, hx⟩ := h
  obtain ⟨l⟩ := cs
  exact ⟨l, rfl, flat_of_trod n t ts _ hf ⟨fuel, _, by simpa [Value.cells] using hx⟩⟩

/-- A slice of structs of plain fields. -/
theorem open_slice_flat {r : Reach} {b0 : Nat} {t e : TypeId} {v : Value} {d : DataW H} {p : List MemPlace} {n : Nat} {ts : List TypeId} (ht : P.underlying t = some (.slice e)) (hf : flatTs P n e = some ts) (hC : P.cellsOf e = ts.length) (h0 : 0 < ts.length)
    (hv : Value.okWide P w r b0 t v) (h : DataW.Trod enc P w base sp held t v d p) :
    ∃ (A : Option Addr) (len cap : Nat) (xs : List (List Value)), v = .slice A len cap ∧ xs.length = len ∧ len ≤ cap ∧ cap ≤ maxLen ∧ (A = none → cap = 0) ∧ Sl w w.heap.size ts.length A xs ∧ ∀ x ∈ xs, All2 (Leaf P) ts x := by
  obtain ⟨fuel, hx⟩ := h
  obtain ⟨a0, len, cap, rfl⟩ := okWide_slice ht hv
  have hx' : DataW.trod enc P w base sp held fuel t [.slice a0 len cap] = some (d, p) := by simpa [Value.cells] using hx
  rcases open_slice ht hx' with ⟨hcs, _⟩ | ⟨a, len', cap', m, k, D, Pl, hcs, hb, hl, hm, hmm, hxx, hi⟩
  · simp only [List.cons.injEq, Value.slice.injEq, and_true] at hcs
    obtain ⟨rfl, rfl, rfl⟩ := hcs
    exact ⟨none, 0, 0, [], rfl, rfl, Nat.le_refl _, by simp [maxLen], fun _ => rfl, Sl.nil, fun x hx => by cases hx⟩
  · simp only [List.cons.injEq, Value.slice.injEq, and_true] at hcs
    obtain ⟨rfl, rfl, rfl⟩ := hcs
    have hspot : a.spot = none := by
      unfold Value.okWide at hv
      rw [ht] at hv
      simp only [Cell.okWide, ht, Cell.ok] at hv
      exact hv.2.2.2.1
    obtain ⟨b, off, s⟩ := a
    simp only at hspot
    subst hspot
    have hlm : len ≤ m := by rw [hmm]; split <;> omega
    have key : ∀ i, i < len → ∃ x : List Value, All2 (Leaf P) ts x ∧ ∀ (j : Nat) (u : Value), x[j]? = some u → w.cell? ⟨b, off + i * ts.length + j, none⟩ = some u := by
      intro i hil
      obtain ⟨cs', hc, ht'⟩ := hi i (by omega)
      obtain ⟨_, hcl, hat⟩ := World.cells?_some hc
      refine ⟨cs', flat_of_trod n e ts cs' hf ⟨k, _, ht'⟩, fun j u hu => ?_⟩
      have hj : j < P.cellsOf e := by rw [← hcl]; exact (List.getElem?_eq_some_iff.1 hu).1
      have := hat j hj
      rw [hu] at this
      have e1 : ((⟨b, off, none⟩ : Addr).add (i * P.cellsOf e)).add j = ⟨b, off + i * ts.length + j, none⟩ := by
        unfold Addr.add
        rw [hC]
        split <;> split <;> simp_all
      rwa [e1] at this
    have build : ∀ q, q ≤ len → ∃ xs : List (List Value), xs.length = q ∧ (∀ x ∈ xs, All2 (Leaf P) ts x) ∧ ∀ (i : Nat) (x : List Value), xs[i]? = some x → ∀ (j : Nat) (u : Value), x[j]? = some u → w.cell? ⟨b, off + i * ts.length + j, none⟩ = some u := by
      intro q
      induction q with
      | zero => exact fun _ => ⟨[], rfl, fun x hx => by (cases hx), fun i x hx => by simp at hx⟩
      | succ q ih =>
        intro hq
        obtain ⟨xs, hl1, hall, hcell⟩ := ih (by omega)
        obtain ⟨x, hx1, hx2⟩ := key q (by omega)
        refine ⟨xs ++ [x], by simp [hl1], fun y hy => ?_, fun i y hy => ?_⟩
        · rcases List.mem_append.1 hy with h | h
          · exact hall y h
          · simp at h; subst h; exact hx1
        · by_cases hiq : i < q
          · rw [List.getElem?_append_left (by omega)] at hy
            exact hcell i y hy
          · by_cases he : i = q
            · subst he
              rw [List.getElem?_append_right (by omega)] at hy
              simp [hl1] at hy
              subst hy
              exact hx2
            · rw [List.getElem?_eq_none (by simp; omega)] at hy
              cases hy
    obtain ⟨xs, hl1, hall, hcell⟩ := build len (Nat.le_refl _)
    refine ⟨some ⟨b, off, none⟩, len, cap, xs, rfl, hl1, hl, hm, fun h => (by cases h), fun hpos => ⟨b, off, rfl, ?_, hcell⟩, hall⟩
    have h1 : All2 (Leaf P) ts xs[0] := hall _ (List.getElem_mem _)
    have hlen := h1.length
    have := hcell 0 xs[0] (List.getElem?_eq_getElem hpos) 0 (xs[0][0]'(by omega)) (List.getElem?_eq_getElem (by omega))
    exact block_lt_of_cell this

/-- Lists whose members are all of a form. -/
theorem all_map {α β : Type} {f : α → β} {Q : α → Prop} : ∀ (xs : List β), (∀ x ∈ xs, ∃ a, x = f a ∧ Q a) → ∃ l : List α, xs = l.map f ∧ ∀ a ∈ l, Q a
  | [], _ => ⟨[], rfl, fun _ h => by cases h⟩
  | x :: xs, h => by
    obtain ⟨a, rfl, ha⟩ := h x (List.mem_cons_self ..)
    obtain ⟨l, rfl, hl⟩ := all_map xs (fun y hy => h y (List.mem_cons_of_mem _ hy))
    exact ⟨a :: l, rfl, fun b hb => by
      rcases List.mem_cons.1 hb with rfl | hb
      · exact ha
      · exact hl b hb⟩
end
end Go.Proofs.YtbjficjcgpgcbaaDoor
namespace Go.Proofs.YtbjficjcgpgcbaaDoor
open Go.ChangeShapes Go.WideShapes Go.ChangeAt Go.RowKit Go.Deep

mutual
/-- A closed plain datum's cells. -/
def flatD {H : Type} : DataW H → Option (List Value)
  | .lit (.bool b) => some [.bool b]
  | .lit (.int k n) => some [.int k n]
  | .lit (.string s) => some [.string ⟨s.toArray⟩]
  | .agg ps => flatDs ps
  | _ => none
def flatDs {H : Type} : List (DataW H) → Option (List Value)
  | [] => some []
  | d :: ds => match flatD d, flatDs ds with
    | some a, some b => some (a ++ b)
    | _, _ => none
end

def arrOK (P : Program) : Nat → TypeId → Bool
  | 0, _ => false
  | n + 1, t => match P.underlying t with
    | some .bool | some (.int _) | some .string => true
    | some (.array k e) => arrOK P n e && decide (P.cellsOf t = k * P.cellsOf e)
    | _ => false

section
variable {H : Type} {enc : TypeId × Value → H} {P : Program} {w : World} {base : Nat} {sp : Nat → Bool} {held : Bool}

theorem flatDs_of {e : TypeId} {m : Nat} (hrec : ∀ cs x, DataW.trod enc P w base sp held m e cs = some x → flatD x.1 = some cs) :
    ∀ (k : Nat) (cs : List Value) (xs : List (DataW H × List MemPlace)), cs.length = k * P.cellsOf e → xs.length = k →
      (∀ i, i < k → DataW.trod enc P w base sp held m e ((cs.drop (i * P.cellsOf e)).take (P.cellsOf e)) = xs[i]?) → flatDs (xs.map (·.1)) = some cs
  | 0, cs, xs, hc, hx, _ => by
    obtain rfl : xs = [] := List.eq_nil_of_length_eq_zero hx
    obtain rfl : cs = [] := List.eq_nil_of_length_eq_zero (by simpa using hc)
    rfl
  | k + 1, cs, x :: xs, hc, hx, hi => by
    have h0 := hi 0 (by omega)
    simp only [Nat.zero_mul, List.drop_zero, List.getElem?_cons_zero] at h0
    have hr := flatDs_of hrec k (cs.drop (P.cellsOf e)) xs (by rw [List.length_drop, hc, Nat.succ_mul]; omega) (by simpa using hx) (fun i hik => by
      have := hi (i + 1) (by omega)
      rw [List.getElem?_cons_succ] at this
      rw [← this, List.drop_drop, Nat.succ_mul, Nat.add_comm])
    simp only [List.map_cons, flatDs, hrec _ _ h0, hr, List.take_append_drop]

theorem flatD_of_trod : ∀ (n : Nat) (t : TypeId) (fuel : Nat) (cs : List Value) (x : DataW H × List MemPlace), arrOK P n t = true → DataW.trod enc P w base sp held fuel t cs = some x → flatD x.1 = some cs
  | 0, _, _, _, _, h, _ => by simp [arrOK] at h
  | n + 1, t, fuel, cs, x, h, hx => by
    unfold arrOK at h
    cases hu : P.underlying t with
    | none => simp [hu] at h
    | some d =>
      rw [hu] at h
      cases d with
      | bool => obtain ⟨b, rfl, rfl⟩ := DataW.trod_bool hu hx; rfl
      | int k => obtain ⟨b, rfl, rfl, _⟩ := DataW.trod_int hu hx; rfl
      | string => obtain ⟨b, rfl, rfl, _⟩ := DataW.trod_string hu hx; simp [flatD]
      | array k e =>
        simp only [Bool.and_eq_true, decide_eq_true_eq] at h
        obtain ⟨xs, m, _, rfl, hl, hxl, hi⟩ := DataW.trod_array hu hx
        exact flatDs_of (fun cs x hx => flatD_of_trod n e m cs x h.1 hx) k cs xs (by rw [hl, h.2]) hxl hi
      | _ => simp at h

/-- A listed variable's cells. -/
theorem laid_cell {l : List (String × DataW Unit)} {name : String} {d : DataW Unit} {g : Nat} {t : TypeId} {n : Nat} {cs : List Value} (hl : laidMet P l w) (hm : (name, d) ∈ l) (hg : P.globalNamed name = some g)
    (hty : (P.globals[g]?).map (·.type) = some t) (hok : arrOK P n t = true) (hd : flatD d = some cs) (i : Nat) (v : Value) (hv : cs[i]? = some v) : w.cell? ⟨g, i, none⟩ = some v := by
  obtain ⟨ps, hL, _⟩ := hl
  have : ∀ (l : List (String × DataW Unit)) (ps : List MemPlace), DataW.LaidVars P w l ps → (name, d) ∈ l →
      ∃ cs' fuel p, w.var? P name = some cs' ∧ DataW.trod (fun _ => ()) P w 0 (fun _ => true) false fuel t cs'.toList = some (d, p) := by
    intro l
    induction l with
    | nil => intro ps _ h; cases h
    | cons x l ih =>
      intro ps hL hm
      obtain ⟨g', t', cs', fuel, p, q, hg', ht', hv', hd', hrest, _⟩ := hL
      rcases List.mem_cons.1 hm with h | h
      · obtain rfl : x = (name, d) := h.symm
        obtain rfl := Option.some.inj (hg.symm.trans hg')
        obtain rfl := Option.some.inj (hty.symm.trans ht')
        exact ⟨cs', fuel, p, hv', hd'⟩
      · exact ih _ hrest h
  obtain ⟨cs', fuel, p, hvar, htr⟩ := this l ps hL hm
  have := flatD_of_trod n t fuel _ _ hok htr
  rw [hd] at this
  obtain rfl := Option.some.inj this
  have := World.var?_cell hg hvar i
  rw [this]
  simpa using hv
end
end Go.Proofs.YtbjficjcgpgcbaaDoor
