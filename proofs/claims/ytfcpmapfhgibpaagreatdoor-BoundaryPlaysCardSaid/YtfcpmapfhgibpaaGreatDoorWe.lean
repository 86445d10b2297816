/- General lemmas; the executor: code, calls, laws. -/
import Derived.WalkKit
import Derived.ProofKit
import Derived.LaidMore
import Derived.Stop.Joined
import Derived.Below
import Derived.Deep.Slices
import Derived.Deep.Fields
import Derived.Deep.Draws
import Derived.OpenShut
import Derived.LaidByTextLater
import Derived.SevenTiedAt
import Derived.Test.YtfcpmapfhgibpaaGreatDoorWd
import Derived.Scope
import Derived.LoopN
set_option linter.unusedVariables false
set_option linter.unusedSimpArgs false
set_option maxRecDepth 1000000
namespace Go.Proofs.YtfcpmapfhgibpaaGreatDoor
section
open Go.ChangeShapes Go.WideShapes Go.ChangeAt Go.RowKit Go.Deep
theorem ret_int {k : IntKind} {a b : Int} (h : a = b) : Ending.returned (.int k a) = .returned (.int k b) := by rw [h]
theorem ret_bool {a b : Bool} (h : a = b) : Ending.returned (.bool a) = .returned (.bool b) := by rw [h]
theorem bcell {W w1 : World} (hb : Below W.heap.size W w1) : (∀ b o, b < W.heap.size -> w1.cell? ⟨b, o, none⟩ = W.cell? ⟨b, o, none⟩) /\ (∀ b o, b < W.heap.size -> w1.frozen? ⟨b, o, none⟩ = W.frozen? ⟨b, o, none⟩) :=
 ⟨fun b o h => hb.cell (p := ⟨b, o, none⟩) h, fun b o h => hb.frozen (p := ⟨b, o, none⟩) h⟩
def Sl (w : World) (B sz : Nat) (A : Option Addr) (xs : List (List Value)) : Prop :=
 0 < xs.length -> ∃ b off, A = some ⟨b, off, none⟩ /\ b < B /\ ∀ (i : Nat) (x : List Value), xs[i]? = some x -> ∀ (j : Nat) (u : Value), x[j]? = some u -> w.cell? ⟨b, off + i * sz + j, none⟩ = some u
theorem Sl.nil {w : World} {B sz : Nat} {A : Option Addr} : Sl w B sz A [] := fun h => absurd h (by simp)
section
variable {H : Type} {enc : TypeId × Value -> H} {P : Program}
theorem Below.trodAll {W W' : World} (hl : laidOutB P = true) (hb : Below W.heap.size W W') : ∀ {ts : List TypeId} {vs : List Value} {ds : List (DataW H)} {ps : List MemPlace},
  (∀ t ∈ ts, P.readableRec t = true /\ t < P.types.size) -> DataW.TrodAll enc P W 0 (fun _ => true) true ts vs ds ps -> (∀ x ∈ ps, x.block < W.heap.size) ->
  ∀ sp : Nat -> Bool, (∀ p ∈ ps, sp p.block = true) -> DataW.TrodAll enc P W' 0 sp true ts vs ds ps
 | [], [], [], _, _, h, _, _, _ => h
 | t :: ts, v :: vs, d :: ds, _, hts, ⟨p, q, h0, h1, e⟩, hlt, sp, hsp => by
  subst e; refine ⟨p, q, ?_, Below.trodAll hl hb (fun t ht => hts t (lTl _ ht)) h1 (fun x hx => hlt x (List.mem_append_right _ hx)) sp (fun x hx => hsp x (List.mem_append_right _ hx)), rfl⟩
  obtain ⟨hr, hrow⟩ := hts t (lHd ..); exact WideElems.Trod_stays hl hr hrow h0 (fun x hx => hb.same (hlt x (List.mem_append_left _ hx))) (fun x hx => hsp x (List.mem_append_left _ hx))
 | [], [], _ :: _, _, _, h, _, _, _ => h.elim
 | [], _ :: _, _, _, _, h, _, _, _ => h.elim
 | _ :: _, [], _, _, _, h, _, _, _ => h.elim
 | _ :: _, _ :: _, [], _, _, h, _, _, _ => h.elim
def Pays (P : Program) (F : FuncId) (args : Array Value) (W : World) : Prop := Calls P F args W fun e W' => e = .returned (.bool true) /\ Below W.heap.size W W'
theorem law_lifted {C : Checked} {os : Os} {F : FuncId} {fn : Func} {s : ChangeSpec} {tb : TypeId} (X : World -> Prop)
  (hX : ∀ w w' : World, w.heap = w'.heap -> X w -> X w')
  (hout : laidOutB C.prog = true) (own : ownKnob C.prog.godebug = none) (started : os.Started) (noInit : C.prog.inits.idxOf? F = none) (hfn : C.prog.funcs[F]? = some fn)
  (hvars : s.vars = []) (hspec : ∀ ds : List (DataW H), ds.length = fn.params.size -> s.fn H (ds ++ []) = { results := [.lit (.bool true)], args := ds })
  (hres : fn.resultTypes = #[tb]) (hb : C.prog.underlying tb = some .bool) (hparams : (fn.params.toList.all fun t => C.prog.readableRec t && decide (t < C.prog.types.size)) = true)
  (witness : ∃ (w : World) (tape : Tape) (i : Input), w.os = os /\ (w.forCall tape i).Shaped C.prog /\ i.vars = [] /\ Input.okWide C.prog (w.forCall tape i) .any w.heap.size F i /\
   ((s.pre enc C.prog fn [] false (w.forCall tape i).memory i.args /\ X (w.forCall tape i).memory) /\ sizedMet enc C.prog fn (OpenSpec.ofChange s) false (w.forCall tape i).memory i.args) /\ Assume.holds {} C.prog (lone (Frame.enter C.prog F i.args .normal) [] (w.forCall tape i)))
  (walk : ∀ (W : World) (base : Nat) (args : Array Value) (ds : List (DataW H)) (p : List MemPlace),
   (∀ (j : Nat) t v, fn.params[j]? = some t -> args[j]? = some v -> Value.okWide C.prog W .any base t v) ->
   DataW.TrodAll enc C.prog W 0 (fun _ => true) true fn.params.toList args.toList ds p -> (∀ x ∈ p, x.block < W.heap.size) -> X W -> Pays C.prog F args W) :
  ReturnsInHanded {} C os F .any (fun w args => (s.pre enc C.prog fn [] false w args /\ X w) /\ sizedMet enc C.prog fn (OpenSpec.ofChange s) false w args) (s.post enc C.prog fn false true false false) := by
 refine returnsInHanded_of_change_and (C := C) (X := fun w _ => X w) (fun w w' _ hh h => hX w w' hh h) own started noInit hfn witness ?_
 intro W base args ds gs before hval hW _ _ hL _; have hW' := hW; obtain ⟨p, q, hA, hV, rfl, _, _⟩ := hW
 obtain ⟨rfl, rfl⟩ : gs = [] /\ q = [] := by
  rw [hvars] at hV; exact trodVars_none hV
 have hlt : ∀ x ∈ p, x.block < W.heap.size := fun x hx => hW'.lt x (by simpa using hx)
 have hlen : ds.length = fn.params.size := by
  have : ∀ (ts : List TypeId) (vs : List Value) (ds : List (DataW H)) (ps : List MemPlace), DataW.TrodAll enc C.prog W 0 (fun _ => true) true ts vs ds ps -> ds.length = ts.length := by
   intro ts
   induction ts with
   | nil => intro vs ds ps h; cases vs <;> cases ds <;> first | rfl | exact h.elim
   | cons t ts ih =>
    intro vs ds ps h; cases vs with
    | nil => cases ds <;> exact h.elim
    | cons v vs =>
     cases ds with
     | nil => exact h.elim
     | cons d ds => obtain ⟨_, _, _, h1, _⟩ := h; simp [ih _ _ _ h1]
  simpa using this _ _ _ _ hA
 refine (walk W base args ds p hval hA hlt hL).mono fun e W' ⟨he, hg⟩ => ?_
 subst he; refine ⟨_, rfl, ds, [], p ++ [], [], p, [], hW', ?_, ?_, ?_, ?_, fun h => by cases h⟩
 ·rw [hspec ds hlen, hres]
  exact trodAll_mk1 (shut_bool hb true)
 ·rw [hspec ds hlen]
  exact Below.trodAll hout hg (fun t ht => by simpa using lAl.1 hparams t ht) hA hlt _ (fun x hx => by simpa using hlt x hx)
 ·rw [hspec ds hlen, hvars]
  rfl
 ·exact World.keptBut_mono (fun x hx => ⟨hx, Or.inr (Or.inl (by simpa using hx))⟩) (hg.frame (· ∈ p ++ []))
end
def Leaf (P : Program) (t : TypeId) (v : Value) : Prop :=
 match P.underlying t with
 | some .bool => ∃ b, v = .bool b
 | some (.int k) => ∃ n, v = .int k n /\ (Lit.int k n).wf = true
 | some .string => ∃ s, v = .string s /\ s.size <= maxLen
 | _ => False
theorem Leaf.bool {P : Program} {t : TypeId} {v : Value} (ht : P.underlying t = some .bool) (h : Leaf P t v) : ∃ b, v = .bool b := by
 unfold Leaf at h; rw [ht] at h; exact h
theorem Leaf.int {P : Program} {t : TypeId} {k : IntKind} {v : Value} (ht : P.underlying t = some (.int k)) (h : Leaf P t v) : ∃ n, v = .int k n /\ (Lit.int k n).wf = true := by
 unfold Leaf at h; rw [ht] at h; exact h
inductive All2 {α β : Type} (R : α -> β -> Prop) : List α -> List β -> Prop where
 | nil : All2 R [] []
 | cons {a b as bs} : R a b -> All2 R as bs -> All2 R (a :: as) (b :: bs)
theorem All2.append {α β : Type} {R : α -> β -> Prop} {as as' : List α} {bs bs' : List β} (h : All2 R as bs) (h' : All2 R as' bs') : All2 R (as ++ as') (bs ++ bs') := by
 induction h with
 | nil => exact h'
 | cons hr _ ih => exact .cons hr ih
theorem All2.length {α β : Type} {R : α -> β -> Prop} {as : List α} {bs : List β} (h : All2 R as bs) : as.length = bs.length := by
 induction h with
 | nil => rfl
 | cons _ _ ih => simp [ih]
def flatFs (P : Program) (rec : TypeId -> Option (List TypeId)) : Nat -> List Field -> Option (List TypeId)
 | _, [] => some []
 | off, f :: fs => match rec f.type with
  | some ts => if f.offset = off /\ P.cellsOf f.type = ts.length then (flatFs P rec (off + ts.length) fs).map (ts ++ ·) else none
  | none => none
def flatTs (P : Program) : Nat -> TypeId -> Option (List TypeId)
 | 0, _ => none
 | n + 1, t => match P.underlying t with
  | some .bool | some (.int _) | some .string => some [t]
  | some (.struct fs) => match flatFs P (flatTs P n) 0 fs.toList with
   | some ts => if P.cellsOf t = ts.length then some ts else none
   | none => none
  | _ => none
section
variable {H : Type} {enc : TypeId × Value -> H} {P : Program} {w : World} {base : Nat} {sp : Nat -> Bool} {held : Bool}
theorem flatFs_of {rec : TypeId -> Option (List TypeId)} {cs : List Value} (hrec : ∀ t ts cs', rec t = some ts -> (∃ fuel x, DataW.trod enc P w base sp held fuel t cs' = some x) -> All2 (Leaf P) ts cs') :
  ∀ (fs : List Field) (off : Nat) (ts : List TypeId), flatFs P rec off fs = some ts -> off + ts.length <= cs.length ->
   (∀ f ∈ fs, ∃ fuel x, DataW.trod enc P w base sp held fuel f.type ((cs.drop f.offset).take (P.cellsOf f.type)) = some x) -> All2 (Leaf P) ts ((cs.drop off).take ts.length)
 | [], off, ts, h, _, _ => by
  simp [flatFs] at h; subst h
  simpa using All2.nil
 | f :: fs, off, ts, h, hl, hf => by
  unfold flatFs at h; cases hr : rec f.type with
  | none => simp [hr] at h
  | some t1 =>
   simp only [hr] at h; split at h
   ·rename_i hc
    obtain ⟨ho, hn⟩ := hc; cases h2 : flatFs P rec (off + t1.length) fs with
    | none => simp [h2] at h
    | some t2 =>
     simp only [h2, Option.map_some, sEq] at h; subst h; have h1 := hrec _ _ _ hr (hf f (lHd ..)); rw [ho, hn] at h1; have h3 := flatFs_of hrec fs (off + t1.length) t2 h2 (by simpa [Nat.add_assoc] using hl) (fun g hg => hf g (lTl _ hg))
     have e : (cs.drop off).take (t1 ++ t2).length = (cs.drop off).take t1.length ++ (cs.drop (off + t1.length)).take t2.length := by
      rw [List.length_append, List.take_add, List.drop_drop]
     rw [e]; exact h1.append h3
   ·cases h
theorem flat_of_trod : ∀ (n : Nat) (t : TypeId) (ts : List TypeId) (cs : List Value), flatTs P n t = some ts -> (∃ fuel x, DataW.trod enc P w base sp held fuel t cs = some x) -> All2 (Leaf P) ts cs
 | 0, _, _, _, h, _ => by simp [flatTs] at h
 | n + 1, t, ts, cs, h, ⟨fuel, x, hx⟩ => by
  unfold flatTs at h; cases hu : P.underlying t with
  | none => simp [hu] at h
  | some d =>
   rw [hu] at h; cases d with
   | bool =>
    simp only [sEq] at h; subst h; obtain ⟨b, rfl, _⟩ := DataW.trod_bool hu hx; exact .cons (by unfold Leaf; rw [hu]; exact ⟨_, rfl⟩) .nil
   | int k =>
    simp only [sEq] at h; subst h; obtain ⟨m, rfl, _, hw⟩ := DataW.trod_int hu hx; exact .cons (by unfold Leaf; rw [hu]; exact ⟨_, rfl, hw⟩) .nil
   | string =>
    simp only [sEq] at h; subst h; obtain ⟨m, rfl, _, hw⟩ := DataW.trod_string hu hx; exact .cons (by unfold Leaf; rw [hu]; exact ⟨_, rfl, hw⟩) .nil
   | struct fs =>
    simp only at h; cases hf : flatFs P (flatTs P n) 0 fs.toList with
    | none => simp [hf] at h
    | some t1 =>
     simp only [hf] at h; split at h
     ·rename_i hc
      simp only [sEq] at h; subst h; obtain ⟨xs, m, _, _, hlen, hxl, hg⟩ := DataW.trod_struct hu hx
      have hall := flatFs_of (enc := enc) (w := w) (base := base) (sp := sp) (held := held) (cs := cs) (fun t ts cs' => flat_of_trod n t ts cs') fs.toList 0 t1 hf (by omega) (fun f hm => by
       obtain ⟨i, hi, rfl⟩ := List.getElem_of_mem hm; have hi' : i < fs.size := by simpa using hi
       have := hg i fs[i] (Array.getElem?_eq_getElem hi'); have hxs : xs[i]? = some (xs[i]'(by omega)) := lGe (by omega)
       exact ⟨m, _, by rw [hxs] at this; simpa using this⟩)
      rw [List.drop_zero, List.take_of_length_le (by omega)] at hall
      exact hall
     ·cases h
   | _ => simp at h
theorem open_flat {r : Reach} {b0 : Nat} {t : TypeId} {fs : Array Field} {v : Value} {d : DataW H} {p : List MemPlace} {n : Nat} {ts : List TypeId} (hs : P.underlying t = some (.struct fs)) (hf : flatTs P n t = some ts)
  (hv : Value.okWide P w r b0 t v) (h : DataW.Trod enc P w base sp held t v d p) : ∃ cs : List Value, v = .agg cs.toArray /\ All2 (Leaf P) ts cs := by
 obtain ⟨cs, rfl, _⟩ := okWide_struct hs hv; obtain ⟨fuel, hx⟩ := h; obtain ⟨l⟩ := cs; exact ⟨l, rfl, flat_of_trod n t ts _ hf ⟨fuel, _, by simpa [Value.cells] using hx⟩⟩
theorem open_slice_flat {r : Reach} {b0 : Nat} {t e : TypeId} {v : Value} {d : DataW H} {p : List MemPlace} {n : Nat} {ts : List TypeId} (ht : P.underlying t = some (.slice e)) (hf : flatTs P n e = some ts) (hC : P.cellsOf e = ts.length) (h0 : 0 < ts.length)
  (hv : Value.okWide P w r b0 t v) (h : DataW.Trod enc P w base sp held t v d p) :
  ∃ (A : Option Addr) (len cap : Nat) (xs : List (List Value)), v = .slice A len cap /\ xs.length = len /\ len <= cap /\ cap <= maxLen /\ (A = none -> cap = 0) /\ Sl w w.heap.size ts.length A xs /\ ∀ x ∈ xs, All2 (Leaf P) ts x := by
 obtain ⟨fuel, hx⟩ := h; obtain ⟨a0, len, cap, rfl⟩ := okWide_slice ht hv; have hx' : DataW.trod enc P w base sp held fuel t [.slice a0 len cap] = some (d, p) := by simpa [Value.cells] using hx
 rcases open_slice ht hx' with ⟨hcs, _⟩ | ⟨a, len', cap', m, k, D, Pl, hcs, hb, hl, hm, hmm, hxx, hi⟩
 ·simp only [List.cons.injEq, Value.slice.injEq, and_true] at hcs
  obtain ⟨rfl, rfl, rfl⟩ := hcs; exact ⟨none, 0, 0, [], rfl, rfl, Nat.le_refl _, by simp [maxLen], fun _ => rfl, Sl.nil, fun x hx => by cases hx⟩
 ·simp only [List.cons.injEq, Value.slice.injEq, and_true] at hcs
  obtain ⟨rfl, rfl, rfl⟩ := hcs
  have hspot : a.spot = none := by
   unfold Value.okWide at hv; rw [ht] at hv; simp only [Cell.okWide, ht, Cell.ok] at hv; exact hv.2.2.2.1
  obtain ⟨b, off, s⟩ := a; simp only at hspot; subst hspot; have hlm : len <= m := by rw [hmm]; split <;> omega
  have key : ∀ i, i < len -> ∃ x : List Value, All2 (Leaf P) ts x /\ ∀ (j : Nat) (u : Value), x[j]? = some u -> w.cell? ⟨b, off + i * ts.length + j, none⟩ = some u := by
   intro i hil; obtain ⟨cs', hc, ht'⟩ := hi i (by omega)
   obtain ⟨_, hcl, hat⟩ := World.cells?_some hc; refine ⟨cs', flat_of_trod n e ts cs' hf ⟨k, _, ht'⟩, fun j u hu => ?_⟩
   have hj : j < P.cellsOf e := by rw [<- hcl]; exact (lSo.1 hu).1
   have := hat j hj; rw [hu] at this
   have e1 : ((⟨b, off, none⟩ : Addr).add (i * P.cellsOf e)).add j = ⟨b, off + i * ts.length + j, none⟩ := by
    unfold Addr.add; rw [hC]; split <;> split <;> simp_all
   rwa [e1] at this
  have build : ∀ q, q <= len -> ∃ xs : List (List Value), xs.length = q /\ (∀ x ∈ xs, All2 (Leaf P) ts x) /\ ∀ (i : Nat) (x : List Value), xs[i]? = some x -> ∀ (j : Nat) (u : Value), x[j]? = some u -> w.cell? ⟨b, off + i * ts.length + j, none⟩ = some u := by
   intro q
   induction q with
   | zero => exact fun _ => ⟨[], rfl, fun x hx => by (cases hx), fun i x hx => by simp at hx⟩
   | succ q ih =>
    intro hq; obtain ⟨xs, hl1, hall, hcell⟩ := ih (by omega)
    obtain ⟨x, hx1, hx2⟩ := key q (by omega)
    refine ⟨xs ++ [x], by simp [hl1], fun y hy => ?_, fun i y hy => ?_⟩
    ·rcases List.mem_append.1 hy with h | h
     ·exact hall y h
     ·simp at h; subst h; exact hx1
    ·by_cases hiq : i < q
     ·rw [lAp (by omega)] at hy
      exact hcell i y hy
     ·by_cases he : i = q
      ·subst he
       rw [List.getElem?_append_right (by omega)] at hy
       simp [hl1] at hy; subst hy; exact hx2
      ·rw [lNo (by simp; omega)] at hy
       cases hy
  obtain ⟨xs, hl1, hall, hcell⟩ := build len (Nat.le_refl _); refine ⟨some ⟨b, off, none⟩, len, cap, xs, rfl, hl1, hl, hm, fun h => (by cases h), fun hpos => ⟨b, off, rfl, ?_, hcell⟩, hall⟩
  have h1 : All2 (Leaf P) ts xs[0] := hall _ (List.getElem_mem _); have hlen := h1.length; have := hcell 0 xs[0] (lGe hpos) 0 (xs[0][0]'(by omega)) (lGe (by omega))
  exact block_lt_of_cell this
theorem all_map {α β : Type} {f : α -> β} {Q : α -> Prop} : ∀ (xs : List β), (∀ x ∈ xs, ∃ a, x = f a /\ Q a) -> ∃ l : List α, xs = l.map f /\ ∀ a ∈ l, Q a
 | [], _ => ⟨[], rfl, fun _ h => by cases h⟩
 | x :: xs, h => by
  obtain ⟨a, rfl, ha⟩ := h x (lHd ..); obtain ⟨l, rfl, hl⟩ := all_map xs (fun y hy => h y (lTl _ hy))
  exact ⟨a :: l, rfl, fun b hb => by
   rcases mCo.1 hb with rfl | hb
   ·exact ha
   ·exact hl b hb⟩
end
mutual
def flatD {H : Type} : DataW H -> Option (List Value)
 | .lit (.bool b) => some [.bool b]
 | .lit (.int k n) => some [.int k n]
 | .lit (.string s) => some [.string ⟨s.toArray⟩]
 | .agg ps => flatDs ps
 | _ => none
def flatDs {H : Type} : List (DataW H) -> Option (List Value)
 | [] => some []
 | d :: ds => match flatD d, flatDs ds with
  | some a, some b => some (a ++ b)
  | _, _ => none
end
def arrOK (P : Program) : Nat -> TypeId -> Bool
 | 0, _ => false
 | n + 1, t => match P.underlying t with
  | some .bool | some (.int _) | some .string => true
  | some (.array k e) => arrOK P n e && decide (P.cellsOf t = k * P.cellsOf e)
  | _ => false
section
variable {H : Type} {enc : TypeId × Value -> H} {P : Program} {w : World} {base : Nat} {sp : Nat -> Bool} {held : Bool}
theorem flatDs_of {e : TypeId} {m : Nat} (hrec : ∀ cs x, DataW.trod enc P w base sp held m e cs = some x -> flatD x.1 = some cs) :
  ∀ (k : Nat) (cs : List Value) (xs : List (DataW H × List MemPlace)), cs.length = k * P.cellsOf e -> xs.length = k ->
   (∀ i, i < k -> DataW.trod enc P w base sp held m e ((cs.drop (i * P.cellsOf e)).take (P.cellsOf e)) = xs[i]?) -> flatDs (xs.map (·.1)) = some cs
 | 0, cs, xs, hc, hx, _ => by
  obtain rfl : xs = [] := List.eq_nil_of_length_eq_zero hx; obtain rfl : cs = [] := List.eq_nil_of_length_eq_zero (by simpa using hc)
  rfl
 | k + 1, cs, x :: xs, hc, hx, hi => by
  have h0 := hi 0 (by omega)
  simp only [Nat.zero_mul, List.drop_zero, List.getElem?_cons_zero] at h0
  have hr := flatDs_of hrec k (cs.drop (P.cellsOf e)) xs (by rw [List.length_drop, hc, Nat.succ_mul]; omega) (by simpa using hx) (fun i hik => by
   have := hi (i + 1) (by omega)
   rw [List.getElem?_cons_succ] at this; rw [<- this, List.drop_drop, Nat.succ_mul, Nat.add_comm])
  simp only [List.map_cons, flatDs, hrec _ _ h0, hr, List.take_append_drop]
theorem flatD_of_trod : ∀ (n : Nat) (t : TypeId) (fuel : Nat) (cs : List Value) (x : DataW H × List MemPlace), arrOK P n t = true -> DataW.trod enc P w base sp held fuel t cs = some x -> flatD x.1 = some cs
 | 0, _, _, _, _, h, _ => by simp [arrOK] at h
 | n + 1, t, fuel, cs, x, h, hx => by
  unfold arrOK at h; cases hu : P.underlying t with
  | none => simp [hu] at h
  | some d =>
   rw [hu] at h; cases d with
   | bool => obtain ⟨b, rfl, rfl⟩ := DataW.trod_bool hu hx; rfl
   | int k => obtain ⟨b, rfl, rfl, _⟩ := DataW.trod_int hu hx; rfl
   | string => obtain ⟨b, rfl, rfl, _⟩ := DataW.trod_string hu hx; simp [flatD]
   | array k e =>
    simp only [bAnd, dEq] at h; obtain ⟨xs, m, _, rfl, hl, hxl, hi⟩ := DataW.trod_array hu hx; exact flatDs_of (fun cs x hx => flatD_of_trod n e m cs x h.1 hx) k cs xs (by rw [hl, h.2]) hxl hi
   | _ => simp at h
theorem laid_cell {l : List (String × DataW Unit)} {name : String} {d : DataW Unit} {g : Nat} {t : TypeId} {n : Nat} {cs : List Value} (hl : laidMet P l w) (hm : (name, d) ∈ l) (hg : P.globalNamed name = some g)
  (hty : (P.globals[g]?).map (·.type) = some t) (hok : arrOK P n t = true) (hd : flatD d = some cs) (i : Nat) (v : Value) (hv : cs[i]? = some v) : w.cell? ⟨g, i, none⟩ = some v := by
 obtain ⟨ps, hL, _⟩ := hl
 have : ∀ (l : List (String × DataW Unit)) (ps : List MemPlace), DataW.LaidVars P w l ps -> (name, d) ∈ l ->
   ∃ cs' fuel p, w.var? P name = some cs' /\ DataW.trod (fun _ => ()) P w 0 (fun _ => true) false fuel t cs'.toList = some (d, p) := by
  intro l
  induction l with
  | nil => intro ps _ h; cases h
  | cons x l ih =>
   intro ps hL hm; obtain ⟨g', t', cs', fuel, p, q, hg', ht', hv', hd', hrest, _⟩ := hL; rcases mCo.1 hm with h | h
   ·obtain rfl : x = (name, d) := h.symm
    obtain rfl := sinj (hg.symm.trans hg'); obtain rfl := sinj (hty.symm.trans ht'); exact ⟨cs', fuel, p, hv', hd'⟩
   ·exact ih _ hrest h
 obtain ⟨cs', fuel, p, hvar, htr⟩ := this l ps hL hm; have := flatD_of_trod n t fuel _ _ hok htr; rw [hd] at this; obtain rfl := sinj this; have := World.var?_cell hg hvar i; rw [this]
 simpa using hv
end
end
namespace SX
open Go Go.RowKit
def freezeH (keep : List Nat) (hp : Hp) : Hp := ⟨hp.n, fun k => bif keep.contains k then ⟨false, (hp.box k).c⟩ else hp.box k⟩
def Hp.flat (hp : Hp) : Hp := let l := (List.range hp.n).map hp.box; ⟨hp.n, fun k => l.getD k ⟨false, .gone⟩⟩
theorem Hp.flat_at (hp : Hp) (k : Nat) : hp.flat.at k = hp.at k := by
 unfold Hp.at Hp.flat; simp only [blt_iff]
 by_cases h : k < hp.n
 ·simp [h]
 ·simp [h]
def thaw0 (h0 h : Hp) : Hp := ⟨h.n, fun k => let b := h.box k; bif Nat.blt k h0.n then (let b0 := h0.box k; bif b0.c.live then ⟨b0.rw, b.c⟩ else b) else b⟩
def thaw (h0 h : Hp) : Hp := (thaw0 h0 h).flat
def visible (hp : Hp) : Hp := ⟨hp.n, fun k => bif (hp.box k).rw then ⟨true, .gone⟩ else hp.box k⟩
theorem freeze_get (keep : List Nat) (l : Hp) (k : Nat) : (freezeH keep l).at k = (l.at k).map fun b => if keep.contains k then ⟨false, b.c⟩ else b := by
 unfold Hp.at freezeH; simp only [blt_iff]
 by_cases h : k < l.n
 ·cases hk : keep.contains k <;> simp [h]
 ·simp [h]
theorem freeze_length (keep : List Nat) (l : Hp) : (freezeH keep l).n = l.n := rfl
theorem thaw_length (l0 l : Hp) : (thaw l0 l).n = l.n := rfl
theorem thaw_get (l0 l : Hp) (k : Nat) : (thaw l0 l).at k = match l0.at k, l.at k with
  | some b0, some b => some (if b0.c.live then ⟨b0.rw, b.c⟩ else b)
  | none, x => x
  | _, none => none := by
 unfold thaw; rw [Hp.flat_at]; unfold Hp.at thaw0; simp only [blt_iff]
 by_cases h : k < l.n <;> by_cases h0 : k < l0.n
 ·cases hl : (l0.box k).c.live <;> simp [h, h0, hl]
 ·simp [h, h0]
 ·simp [h, h0]
 ·simp [h, h0]
section
variable {P : Program} {ρ : Env} {w0 : World} {M : Nat -> Prop} {gl : Gl} {β : Bm} {w : World} {hp : Hp} {fs : Fs}
theorem freeze_c {keep : List Nat} {k : Nat} {b : Box} (h : (freezeH keep hp).at k = some b) : ∃ b', hp.at k = some b' /\ b.c = b'.c /\ (b.rw = true -> b'.rw = true) := by
 rw [freeze_get] at h; cases hk : hp.at k with
 | none => simp [hk] at h
 | some b' =>
  simp only [hk, Option.map_some, sEq] at h; refine ⟨b', rfl, ?_, ?_⟩
  ·subst h; split <;> rfl
  ·subst h; split
   ·intro h; cases h
   ·exact id
theorem Heap.freeze (h : Heap ρ w0 M β hp w) (keep : List Nat) : Heap ρ w0 M β (freezeH keep hp) w := by
 refine ⟨fun k b hk => ?_, fun j k b b' hj hk hb hb' e => ?_, fun k b hk hr hl => ?_, fun k b hk => ?_, h.kept, fun k b hk ha => ?_, h.objs.imp fun φ ho => ho.to (fun k b hk hb => ?_) (fun k b hk hb => ?_) (fun _ _ _ _ _ _ => rfl)⟩
 ·obtain ⟨x, hx, e, _⟩ := freeze_c hk
  rw [e]; exact h.lies k x hx
 ·obtain ⟨x, hx, e1, _⟩ := freeze_c hj
  obtain ⟨y, hy, e2, _⟩ := freeze_c hk; exact h.inj j k x y hx hy (e1 ▸ hb) (e2 ▸ hb') e
 ·obtain ⟨x, hx, e, hr'⟩ := freeze_c hk
  exact h.mine k x hx (hr' hr) (e ▸ hl)
 ·obtain ⟨x, hx, e, _⟩ := freeze_c hk
  rw [e, freeze_length]; exact h.good k x hx
 ·obtain ⟨x, hx, e, _⟩ := freeze_c hk
  exact h.arrs k x hx (e ▸ ha)
 ·obtain ⟨x, hx, e, _⟩ := freeze_c hk
  exact ⟨x, hx, e.symm, rfl⟩
 ·obtain ⟨x, hx, e, _⟩ := freeze_c hk
  exact .inl ⟨k, x, hx, e ▸ hb, rfl⟩
theorem thaw_c {hp' : Hp} {k : Nat} {b : Box} (h : (thaw hp hp').at k = some b) : ∃ b', hp'.at k = some b' /\ b.c = b'.c /\ (b.rw = true -> b'.rw = true \/ ∃ b0, hp.at k = some b0 /\ b0.c.live = true /\ b0.rw = true) := by
 rw [thaw_get] at h; cases h0 : hp.at k with
 | none => rw [h0] at h; exact ⟨b, h, rfl, fun h => .inl h⟩
 | some b0 =>
  cases h1 : hp'.at k with
  | none => rw [h0, h1] at h; cases h
  | some b1 =>
   rw [h0, h1] at h; simp only [sEq] at h; refine ⟨b1, rfl, ?_, ?_⟩
   ·subst h; split <;> rfl
   ·subst h
    split
    ·rename_i hl; exact fun hr => .inr ⟨b0, rfl, hl, hr⟩
    ·exact fun hr => .inl hr
theorem Heap.thaw_ {hp' : Hp} {β' : Bm} {w' : World} (h0 : Heap ρ w0 M β hp w) (hx : Ext hp.n β β') (h : Heap ρ w0 M β' hp' w') : Heap ρ w0 M β' (thaw hp hp') w' := by
 refine ⟨fun k b hk => ?_, fun j k b b' hj hk hb hb' e => ?_, fun k b hk hr hl => ?_, fun k b hk => ?_, h.kept, fun k b hk ha => ?_, h.objs.imp fun φ ho => ho.to (fun k b hk hb => ?_) (fun k b hk hb => ?_) (fun _ _ _ _ _ _ => rfl)⟩
 ·obtain ⟨x, hx, e, _⟩ := thaw_c hk
  rw [e]; exact h.lies k x hx
 ·obtain ⟨x, hx, e1, _⟩ := thaw_c hj
  obtain ⟨y, hy, e2, _⟩ := thaw_c hk; exact h.inj j k x y hx hy (e1 ▸ hb) (e2 ▸ hb') e
 ·obtain ⟨x, hx', e, hr'⟩ := thaw_c hk
  rcases hr' hr with h1 | ⟨b0, hb0, hl0, hr0⟩
  ·exact h.mine k x hx' h1 (e ▸ hl)
  ·rw [hx k (Hp.at_lt hb0)]
   exact h0.mine k b0 hb0 hr0 hl0
 ·obtain ⟨x, hx, e, _⟩ := thaw_c hk
  rw [e, thaw_length]; exact h.good k x hx
 ·obtain ⟨x, hx, e, _⟩ := thaw_c hk
  exact h.arrs k x hx (e ▸ ha)
 ·obtain ⟨x, hx, e, _⟩ := thaw_c hk
  exact ⟨x, hx, e.symm, rfl⟩
 ·obtain ⟨x, hx, e, _⟩ := thaw_c hk
  exact .inl ⟨k, x, hx, e ▸ hb, rfl⟩
theorem stay_thaw {keep : List Nat} {hp' : Hp} (h : Stay (freezeH keep hp) hp') : Stay hp (thaw hp hp') := fun k b hk hr => by
 have hf : (freezeH keep hp).at k = some b := by
  rw [freeze_get, hk]; simp only [Option.map_some]; split
  ·obtain ⟨r, c⟩ := b; simp only at hr; subst hr; rfl
  ·rfl
 have h' := h k b hf hr; rw [thaw_get, hk, h']; simp
def Stands (ρ : Env) (β : Bm) (hpF : Hp) (w : World) : Prop := ∀ (k : Nat) (b : Box), hpF.at k = some b -> b.rw = false -> b.c.lies ρ β (β k) w
theorem Bx.lies_back {n : Nat} {β β' : Bm} (hx : Ext n β β') {bv : Nat × Nat} {w : World} : ∀ {b : Bx}, b.ok ρ n -> b.lies ρ β' bv w -> b.lies ρ β bv w
 | .cells c ty 0, hk, h => by simp only [Bx.lies] at *; rw [SV.evs_ext hx c hk] at h; exact h
 | .cells c ty (s + 1), hk, h => by simp only [Bx.lies] at *; rw [SV.evs_ext hx c hk] at h; exact h
 | .map es clock, hk, h => by
  simp only [Bx.lies] at *; rw [h]; congr 3
  exact List.map_congr_left fun e he => by
   have := hk e he; simp only [entOf, SV.ev_ext hx _ this.1, SV.ev_ext hx _ this.2]
 | .ro c _, hk, h => by simp only [Bx.lies] at *; rw [SV.evs_ext hx c hk] at h; exact h
 | .arr _ _ _, _, h => h
 | .gone, _, h => h
 | .obj _ _, _, h => h
 | .view o l, hk, h => by simp only [Bx.lies] at *; rw [hx o hk] at h; exact h
theorem Stands.of {hpF hp' : Hp} {β' : Bm} {w' : World} (hgood : ∀ (k : Nat) (b : Box), hpF.at k = some b -> b.c.ok ρ hpF.n) (hx : Ext hpF.n β β') (hs : Stay hpF hp') (h : Heap ρ w0 M β' hp' w') : Stands ρ β hpF w' := fun k b hk hr => by
 have := h.lies k b (hs k b hk hr); rw [hx k (Hp.at_lt hk)] at this; exact Bx.lies_back hx (hgood k b hk) this
theorem Stands.sees {hpF : Hp} {β' : Bm} {n : Nat} (hgood : ∀ (k : Nat) (b : Box), hpF.at k = some b -> b.c.ok ρ hpF.n) (hx : Ext hpF.n β β') (hn : hpF.n <= n) (h : Stands ρ β hpF w) : Sees ρ β' n (visible hpF) w := by
 refine ⟨fun k b hk => ?_, fun k b hk => ?_⟩
 all_goals
  obtain ⟨hlt, hk⟩ := Hp.at_some.1 hk; have hb : hpF.at k = some (hpF.box k) := Hp.at_some.2 ⟨hlt, rfl⟩; unfold visible at hk; simp only at hk; generalize hpF.box k = b0 at hb hk
  ·subst hk
   cases hr : b0.rw
   rotate_left
   ·trivial
   ·simp only [cond_false]
    first
     | (rw [hx k (Hp.at_lt hb)]; exact Bx.lies_ext hx (hgood k b0 hb) (h k b0 hb hr))
     | exact Bx.ok_mono hn (hgood k b0 hb)
def decideE (fs : Fs) (e : E) : Option Bool :=
 match e with
 | .lit n => some (n != 0)
 | e => match e.neg? with
  | some x => (knownC fs x).map fun b => !b
  | none => knownC fs e
theorem decideE_spec {e : E} {b : Bool} (hf : ∀ p ∈ fs, (p.1.ev ρ ≠ 0 ↔ p.2 = true)) (h : decideE fs e = some b) : decide (e.ev ρ ≠ 0) = b := by
 unfold decideE at h; split at h
 ·rename_i n
  obtain rfl := sinj h
  by_cases hn : n = 0 <;> simp [E.ev, hn]
 ·split at h
  ·rename_i x hx
   have h1 := E.neg?_spec (ρ := ρ) hx; cases hk : knownC fs x with
   | none => simp [hk] at h
   | some c =>
    simp only [hk, Option.map_some, sEq] at h; have h2 := knownC_spec hf hk; subst h
    by_cases hx0 : x.ev ρ = 0
    ·have : c = false := by cases c; rfl; exact absurd hx0 (h2.2 rfl)
     subst this
     simpa using h1.2 hx0
    ·have : c = true := h2.1 hx0
     subst this; have : ¬ e.ev ρ ≠ 0 := fun h => hx0 (h1.1 h)
     simpa using this
  ·have h2 := knownC_spec hf h
   by_cases he : e.ev ρ = 0
   ·have : b = false := by cases b; rfl; exact absurd he (h2.2 rfl)
    subst this; simp [he]
   ·have := h2.1 he
    subst this; simp [he]
def wants (ops : Array Oper) (st : St) (o : Oper) : Option Bool :=
 match guardS ops st o with
 | .yes => some true
 | .no => some false
 | .ask e want => (decideE st.facts e).map fun b => b == want
 | .lost => none
theorem wants_spec {ops : Array Oper} {st : St} {o : Oper} {a : Act} {b : Bool} (hst : Conc ρ w0 M gl β st a w) (h : wants ops st o = some b) : Region.wanted o (yielded ops a.tmps) = b := by
 unfold wants at h; split at h
 ·rename_i hg; obtain rfl := sinj h; exact guardS_yes hst hg
 ·rename_i hg; obtain rfl := sinj h; exact guardS_no hst hg
 ·rename_i e want hg
  cases hd : decideE st.facts e with
  | none => simp [hd] at h
  | some c =>
   simp only [hd, Option.map_some, sEq] at h; subst h; rw [guardS_ask hst hg, decideE_spec hst.facts hd]
 ·cases h
structure Oi where
 i : Nat
 o : Oper
 dep : Nat
 fr : Nat
def bitM (i : Nat) : Nat := 2 ^ i
def depM : List Edge -> Nat
 | [] => 0
 | e :: l => if Region.binds .any e then bitM e.on ||| depM l else depM l
def waitsFor (i : Nat) : List Edge -> Bool
 | [] => false
 | e :: l => (Region.binds .any e && e.on == i) || waitsFor i l
def frM (ops : Array Oper) (i : Nat) (oi : Oper) : Nat -> List Oper -> Nat
 | _, [] => 0
 | j, oj :: l => if j == i || waitsFor i oj.after.toList || oi.apart ops oj then frM ops i oi (j + 1) l else bitM j ||| frM ops i oi (j + 1) l
def infosFrom (ops : Array Oper) : Nat -> List Oper -> List Oi
 | _, [] => []
 | i, o :: l => ⟨i, o, depM o.after.toList, frM ops i o 0 ops.toList⟩ :: infosFrom ops (i + 1) l
def isIn (m d : Nat) : Bool := m &&& d == m
theorem testBit_bitM (i j : Nat) : (bitM i).testBit j = decide (i = j) := by unfold bitM; rw [Nat.testBit_two_pow]
theorem isIn_spec {m d : Nat} (h : isIn m d = true) (j : Nat) (hj : m.testBit j = true) : d.testBit j = true := by
 unfold isIn at h; have : m &&& d = m := by simpa using h
 rw [<- this, Nat.testBit_and] at hj; simp only [bAnd] at hj; exact hj.2
theorem isIn_of {m d : Nat} (h : ∀ j, m.testBit j = true -> d.testBit j = true) : isIn m d = true := by
 unfold isIn
 have : m &&& d = m := by
  apply Nat.eq_of_testBit_eq; intro j; rw [Nat.testBit_and]; cases hj : m.testBit j
  ·rfl
  ·simp [h j hj]
 simpa using this
theorem depM_spec : ∀ {l : List Edge} {j : Nat}, (depM l).testBit j = true ↔ ∃ e ∈ l, Region.binds .any e = true /\ e.on = j
 | [], j => by simp [depM]
 | e :: l, j => by
  unfold depM; split
  ·rename_i hb
   rw [Nat.testBit_or, bOr, testBit_bitM, dEq, depM_spec]; constructor
   ·rintro (h | ⟨x, hx, h⟩)
    ·exact ⟨e, lHd .., hb, h⟩
    ·exact ⟨x, lTl _ hx, h⟩
   ·rintro ⟨x, hx, hxb, h⟩
    rcases mCo.1 hx with rfl | hx
    ·exact .inl h
    ·exact .inr ⟨x, hx, hxb, h⟩
  ·rename_i hb
   rw [depM_spec]; constructor
   ·rintro ⟨x, hx, h⟩; exact ⟨x, lTl _ hx, h⟩
   ·rintro ⟨x, hx, hxb, h⟩
    rcases mCo.1 hx with rfl | hx
    ·exact absurd hxb hb
    ·exact ⟨x, hx, hxb, h⟩
theorem waitsFor_spec {i : Nat} : ∀ {l : List Edge}, waitsFor i l = true -> ∃ e ∈ l, (Region.binds .any e && e.on == i) = true
 | [], h => by cases h
 | e :: l, h => by
  unfold waitsFor at h; rw [bOr] at h; rcases h with h | h
  ·exact ⟨e, lHd .., h⟩
  ·obtain ⟨x, hx, h⟩ := waitsFor_spec h; exact ⟨x, lTl _ hx, h⟩
theorem frM_spec {ops : Array Oper} {i : Nat} {oi : Oper} : ∀ {l : List Oper} {j0 j : Nat} {oj : Oper}, l[j]? = some oj -> (frM ops i oi j0 l).testBit (j0 + j) = false -> j0 + j = i \/ waitsFor i oj.after.toList = true \/ oi.apart ops oj = true
 | [], j0, j, oj, h, _ => by simp at h
 | o :: l, j0, 0, oj, h, hb => by
  obtain rfl : o = oj := by simpa using h
  unfold frM at hb; split at hb
  ·rename_i hc
   simp only [bOr, beq_iff_eq] at hc; rcases hc with (hc | hc) | hc
   ·exact .inl (by simpa using hc)
   ·exact .inr (.inl hc)
   ·exact .inr (.inr hc)
  ·rw [Nat.testBit_or, testBit_bitM] at hb
   simp at hb
 | o :: l, j0, j + 1, oj, h, hb => by
  have h' : l[j]? = some oj := by simpa using h
  have e : j0 + (j + 1) = (j0 + 1) + j := by omega
  rw [e] at hb ⊢; unfold frM at hb; split at hb
  ·exact frM_spec h' hb
  ·rw [Nat.testBit_or, Bool.or_eq_false_iff] at hb
   exact frM_spec h' hb.2
theorem infosFrom_mem {ops : Array Oper} : ∀ {l : List Oper} {i0 i : Nat} {o : Oper}, l[i]? = some o -> ⟨i0 + i, o, depM o.after.toList, frM ops (i0 + i) o 0 ops.toList⟩ ∈ infosFrom ops i0 l
 | [], _, _, _, h => by simp at h
 | x :: l, i0, 0, o, h => by
  obtain rfl : x = o := by simpa using h
  exact lHd ..
 | x :: l, i0, i + 1, o, h => by
  have := infosFrom_mem (ops := ops) (i0 := i0 + 1) (show l[i]? = some o by simpa using h)
  rw [show i0 + 1 + i = i0 + (i + 1) by omega] at this
  exact lTl _ this
theorem infosFrom_of {ops : Array Oper} : ∀ {l : List Oper} {i0 : Nat} {x : Oi}, x ∈ infosFrom ops i0 l -> ∃ i o, l[i]? = some o /\ x = ⟨i0 + i, o, depM o.after.toList, frM ops (i0 + i) o 0 ops.toList⟩
 | [], _, _, h => by cases h
 | o :: l, i0, x, h => by
  rcases mCo.1 h with rfl | h
  ·exact ⟨0, o, rfl, rfl⟩
  ·obtain ⟨i, o', h1, h2⟩ := infosFrom_of h
   exact ⟨i + 1, o', by simpa using h1, by rw [h2]; simp only [show i0 + 1 + i = i0 + (i + 1) by omega]⟩
def asks (ops : Array Oper) (st : St) : List Oi -> List E
 | [] => []
 | x :: l => match guardS ops st x.o with
  | .ask e _ => match decideE st.facts e with
   | none => e :: asks ops st l
   | some _ => asks ops st l
  | _ => asks ops st l
def resolveE {α : Type} : List E -> Fs -> (Fs -> T α) -> T α
 | [], fs, f => f fs
 | e :: l, fs, f => split fs e (fun fs => resolveE l fs f) (fun fs => resolveE l fs f)
theorem resolveE_holds {α : Type} {f : Fs -> T α} {Q : α -> Prop} : ∀ {l : List E} {fs : Fs}, (∀ p ∈ fs, (p.1.ev ρ ≠ 0 ↔ p.2 = true)) -> (resolveE l fs f).holds ρ Q -> ∃ fs', (∀ p ∈ fs', (p.1.ev ρ ≠ 0 ↔ p.2 = true)) /\ (f fs').holds ρ Q
 | [], fs, hf, h => ⟨fs, hf, h⟩
 | e :: l, fs, hf, h => by
  obtain ⟨fs', hf', h'⟩ := split_holds hf h; rcases h' with ⟨_, h'⟩ | ⟨_, h'⟩ <;> exact resolveE_holds hf' h'
def yieldM (P : Program) (gl : Gl) (vis : Hp) (ops : Array Oper) (done : Nat) (st : St) (x : Oi) : Option SV :=
 if isIn x.dep done then
  match wants ops st x.o with
  | some false => if isIn x.fr done then some undefS else none
  | some true => if isIn x.fr done then pureS' P st.facts vis (st.get gl) x.o else none
  | none => none
 else none
def pickM (P : Program) (gl : Gl) (vis : Hp) (ops : Array Oper) (done : Nat) (st : St) : List Oi -> Option (Oi × SV × List Oi)
 | [] => none
 | x :: l => match yieldM P gl vis ops done st x with
  | some r => some (x, r, l)
  | none => match pickM P gl vis ops done st l with
   | some (y, r, l') => some (y, r, x :: l')
   | none => none
def readyM (done : Nat) : List Oi -> List (Oi × List Oi)
 | [] => []
 | x :: l => if isIn x.dep done then (x, l) :: (readyM done l).map fun p => (p.1, x :: p.2) else (readyM done l).map fun p => (p.1, x :: p.2)
def allT {α β : Type} (f : β -> T α) : List β -> T α
 | [] => .bad 131
 | [i] => f i
 | i :: l => .both (f i) (allT f l)
theorem allT_holds {α β : Type} {f : β -> T α} {Q : α -> Prop} : ∀ {l : List β}, (allT f l).holds ρ Q -> ∀ i ∈ l, (f i).holds ρ Q
 | [], h, i, hi => by cases hi
 | [j], h, i, hi => by
  obtain rfl : i = j := by simpa using hi
  exact h
 | j :: k :: l, h, i, hi => by
  rcases mCo.1 hi with rfl | hi
  ·exact h.1
  ·exact allT_holds h.2 i hi
def anyOps (P : Program) (gl : Gl) (call : Caller) (vis : Hp) (ops : Array Oper) : Nat -> List Oi -> Nat -> St -> T St
 | _, [], _, st => .ok st
 | 0, _, _, _ => .bad 130
 | n + 1, todo, done, st =>
  match pickM P gl vis ops done st todo with
  | some (x, r, l) => anyOps P gl call vis ops n l (done ||| bitM x.i) (st.put x.o.dst r)
  | none =>
   let rs := readyM done todo
   resolveE (asks ops st (rs.map (·.1))) st.facts fun fs =>
    match pickM P gl vis ops done { st with facts := fs } todo with
    | some (x, r, l) => anyOps P gl call vis ops n l (done ||| bitM x.i) ({ st with facts := fs }.put x.o.dst r)
    | none => allT (fun p => (runOp P gl call ops p.1.o { st with facts := fs }).bind (anyOps P gl call vis ops n p.2 (done ||| bitM p.1.i))) rs
structure Left (ops : Array Oper) (listed : Array Bool) (todo : List Oi) (done : Nat) : Prop where
 mask : ∀ j, done.testBit j = listed.getD j false
 size : listed.size = ops.size
 all : ∀ i o, ops[i]? = some o -> listed.getD i true = false -> ⟨i, o, depM o.after.toList, frM ops i o 0 ops.toList⟩ ∈ todo
 only : ∀ x ∈ todo, ∃ o, ops[x.i]? = some o /\ listed.getD x.i true = false /\ x = ⟨x.i, o, depM o.after.toList, frM ops x.i o 0 ops.toList⟩
theorem Left.next {ops : Array Oper} {listed : Array Bool} {todo l : List Oi} {done : Nat} (h : Left ops listed todo done) {x : Oi} (hx : x ∈ todo) (hsub : ∀ y ∈ l, y ∈ todo /\ y.i ≠ x.i) (hall : ∀ y ∈ todo, y.i ≠ x.i -> y ∈ l) :
  Left ops (listed.setIfInBounds x.i true) l (done ||| bitM x.i) := by
 obtain ⟨o, ho, hlx, _⟩ := h.only x hx; have hlt : x.i < listed.size := by rw [h.size]; exact (Array.getElem?_eq_some_iff.1 ho).1
 refine ⟨fun j => ?_, by simpa using h.size, fun i oi hi hli => ?_, fun y hy => ?_⟩
 ·rw [Nat.testBit_or, h.mask, testBit_bitM]
  by_cases hj : x.i = j
  ·subst hj; simp [hlt]
  ·rw [getD_set_ne false hj]; simp [hj]
 ·by_cases hj : x.i = i
  ·subst hj; simp [hlt] at hli
  ·rw [getD_set_ne true hj] at hli
   exact hall _ (h.all i oi hi hli) (fun e => hj e.symm)
 ·obtain ⟨hy1, hy2⟩ := hsub y hy
  obtain ⟨oy, h1, h2, h3⟩ := h.only y hy1; exact ⟨oy, h1, by rw [getD_set_ne true (Ne.symm hy2)]; exact h2, h3⟩
def Nd : List Oi -> Prop
 | [] => True
 | x :: l => (∀ y ∈ l, y.i ≠ x.i) /\ Nd l
theorem pickM_spec {vis : Hp} {ops : Array Oper} {done : Nat} {st : St} : ∀ {todo : List Oi} {x : Oi} {r : SV} {l : List Oi}, pickM P gl vis ops done st todo = some (x, r, l) -> Nd todo ->
  x ∈ todo /\ yieldM P gl vis ops done st x = some r /\ (∀ y ∈ l, y ∈ todo /\ y.i ≠ x.i) /\ (∀ y ∈ todo, y.i ≠ x.i -> y ∈ l) /\ Nd l
 | [], _, _, _, h, _ => by cases h
 | z :: todo, x, r, l, h, hd => by
  unfold pickM at h; split at h
  ·rename_i q hq
   simp only [sEq, Prod.mk.injEq] at h; obtain ⟨rfl, rfl, rfl⟩ := h; exact ⟨lHd .., hq, fun y hy => ⟨lTl _ hy, hd.1 y hy⟩, fun y hy hne => (mCo.1 hy).resolve_left (fun e => hne (by rw [e])), hd.2⟩
  ·split at h
   ·rename_i y r' l' hp
    simp only [sEq, Prod.mk.injEq] at h; obtain ⟨rfl, rfl, rfl⟩ := h; obtain ⟨p1, p2, p3, p4, p5⟩ := pickM_spec hp hd.2; refine ⟨lTl _ p1, p2, fun u hu => ?_, fun u hu hne => ?_, ⟨fun u hu => hd.1 u (p3 u hu).1, p5⟩⟩
    ·rcases mCo.1 hu with rfl | hu
     ·exact ⟨lHd .., fun e => hd.1 _ p1 e.symm⟩
     ·exact ⟨lTl _ (p3 u hu).1, (p3 u hu).2⟩
    ·rcases mCo.1 hu with rfl | hu
     ·exact lHd ..
     ·exact lTl _ (p4 u hu hne)
   ·cases h
theorem readyM_spec {done : Nat} : ∀ {todo : List Oi} {p : Oi × List Oi}, p ∈ readyM done todo -> Nd todo ->
  p.1 ∈ todo /\ isIn p.1.dep done = true /\ (∀ y ∈ p.2, y ∈ todo /\ y.i ≠ p.1.i) /\ (∀ y ∈ todo, y.i ≠ p.1.i -> y ∈ p.2) /\ Nd p.2
 | [], p, h, _ => by cases h
 | z :: todo, p, h, hd => by
  have tail : ∀ q ∈ (readyM done todo).map fun p : Oi × List Oi => (p.1, z :: p.2), q.1 ∈ z :: todo /\ isIn q.1.dep done = true /\ (∀ y ∈ q.2, y ∈ z :: todo /\ y.i ≠ q.1.i) /\ (∀ y ∈ z :: todo, y.i ≠ q.1.i -> y ∈ q.2) /\ Nd q.2 := fun q hq => by
   obtain ⟨u, hu, rfl⟩ := List.mem_map.1 hq; obtain ⟨p1, p2, p3, p4, p5⟩ := readyM_spec hu hd.2; refine ⟨lTl _ p1, p2, fun v hv => ?_, fun v hv hne => ?_, ⟨fun v hv => hd.1 v (p3 v hv).1, p5⟩⟩
   ·rcases mCo.1 hv with rfl | hv
    ·exact ⟨lHd .., fun e => hd.1 _ p1 e.symm⟩
    ·exact ⟨lTl _ (p3 v hv).1, (p3 v hv).2⟩
   ·rcases mCo.1 hv with rfl | hv
    ·exact lHd ..
    ·exact lTl _ (p4 v hv hne)
  unfold readyM at h; split at h
  ·rename_i hr
   rcases mCo.1 h with rfl | h
   ·exact ⟨lHd .., hr, fun y hy => ⟨lTl _ hy, hd.1 y hy⟩, fun y hy hne => (mCo.1 hy).resolve_left (fun e => hne (by rw [e])), hd.2⟩
   ·exact tail p h
  ·exact tail p h
theorem readyM_all {done : Nat} : ∀ {todo : List Oi} {x : Oi}, x ∈ todo -> isIn x.dep done = true -> ∃ p ∈ readyM done todo, p.1 = x
 | [], x, h, _ => by cases h
 | z :: todo, x, h, hr => by
  unfold readyM; rcases mCo.1 h with rfl | h
  ·rw [if_pos hr]; exact ⟨(_, _), lHd .., rfl⟩
  ·obtain ⟨p, hp, rfl⟩ := readyM_all h hr
   have hm : (p.1, z :: p.2) ∈ (readyM done todo).map fun p : Oi × List Oi => (p.1, z :: p.2) := List.mem_map.2 ⟨p, hp, rfl⟩
   split
   ·exact ⟨_, lTl _ hm, rfl⟩
   ·exact ⟨_, hm, rfl⟩
theorem Left.ready_in {ops : Array Oper} {listed : Array Bool} {todo : List Oi} {done : Nat} (h : Left ops listed todo done) {i : Nat} (hi : i ∈ Region.ready .any ops listed) : ∃ x ∈ todo, x.i = i /\ isIn x.dep done = true := by
 obtain ⟨h1, o, ho, hall⟩ := mem_ready.1 hi; refine ⟨_, h.all i o ho h1, rfl, isIn_of fun j hj => ?_⟩
 obtain ⟨e, he, hb, rfl⟩ := depM_spec.1 hj; rw [h.mask]; exact hall e (by simpa using he) hb
theorem Left.in_ready {ops : Array Oper} {listed : Array Bool} {todo : List Oi} {done : Nat} (h : Left ops listed todo done) {x : Oi} (hx : x ∈ todo) (hd : isIn x.dep done = true) : x.i ∈ Region.ready .any ops listed := by
 obtain ⟨o, ho, hl, he⟩ := h.only x hx; rw [he] at hd; refine mem_ready.2 ⟨hl, o, ho, fun e hem hb => ?_⟩
 rw [<- h.mask]; exact isIn_spec hd _ (depM_spec.2 ⟨e, by simpa using hem, hb, rfl⟩)
theorem Left.free {ops : Array Oper} {listed : Array Bool} {todo : List Oi} {done : Nat} (h : Left ops listed todo done) {x : Oi} (hx : x ∈ todo) (hf : isIn x.fr done = true) : Region.free .any ops listed x.i = true := by
 obtain ⟨o, ho, hl, he⟩ := h.only x hx; rw [he] at hf; unfold Region.free; rw [ho]; simp only [lAl, mRa, bOr, beq_iff_eq]; intro j hj; have hoj : ops[j]? = some ops[j] := Array.getElem?_eq_getElem hj
 by_cases hb : (frM ops x.i o 0 ops.toList).testBit j = true
 ·have := isIn_spec hf j hb
  rw [h.mask] at this; refine .inl (.inr ?_); have hjl : j < listed.size := by rw [h.size]; exact hj
  simp [hjl] at this ⊢; exact this
 ·have := frM_spec (ops := ops) (i := x.i) (oi := o) (l := ops.toList) (j0 := 0) (j := j) (oj := ops[j]) (by simp) (by simpa using hb)
  rcases this with h1 | h1 | h1
  ·exact .inl (.inl (by omega))
  ·refine .inr ?_
   rw [hoj]; simp only [bOr]; obtain ⟨e, he1, he2⟩ := waitsFor_spec h1; exact .inl (Array.any_eq_true'.2 ⟨e, by simpa using he1, he2⟩)
  ·refine .inr ?_
   rw [hoj]; simp only [bOr]; exact .inr h1
theorem nd_infos {ops : Array Oper} : ∀ {l : List Oper} {i : Nat}, Nd (infosFrom ops i l)
 | [], _ => trivial
 | o :: l, i => ⟨fun y hy => by
   obtain ⟨k, o', _, rfl⟩ := infosFrom_of hy; simp only; omega, nd_infos⟩
theorem left_start (ops : Array Oper) : Left ops (Array.replicate ops.size false) (infosFrom ops 0 ops.toList) 0 := by
 refine ⟨fun j => ?_, by simp, fun i o ho _ => ?_, fun x hx => ?_⟩
 ·by_cases hj : j < ops.size <;> simp [hj]
 ·have := infosFrom_mem (ops := ops) (i0 := 0) (show ops.toList[i]? = some o by simpa using ho)
  simpa using this
 ·obtain ⟨i, o, h1, rfl⟩ := infosFrom_of hx
  have hi : i < ops.size := by have := (lSo.1 h1).1; simpa using this
  simp only [Nat.zero_add]; exact ⟨o, (by simpa using h1), (by simp [hi]), rfl⟩
theorem anyOps_run {call : Caller} (hc : CallOk P ρ w0 M gl call) {ops : Array Oper} {Q : Exit -> Act -> World -> Prop} {hpF : Hp} {β0 : Bm} (hsel : Region.noSelect ops = true)
  (hgood : ∀ (k : Nat) (b : Box), hpF.at k = some b -> b.c.ok ρ hpF.n) (hQ : ∀ c d v a w, Q (.panic c) (Act.put a d v) w -> Q (.panic c) a w) :
  ∀ (n : Nat) (listed : Array Bool) (todo : List Oi) (done : Nat) (β : Bm) (st : St) (a : Act) (w : World), Left ops listed todo done -> Nd todo -> Conc ρ w0 M gl β st a w -> Ext hpF.n β0 β -> hpF.n <= st.hp.n -> Stay hpF st.hp ->
   ((anyOps P gl call (visible hpF) ops n todo done st).holds ρ fun st' => Later ρ w0 M gl β st.hp st' (Q .normal)) -> wpAnyH P .any ops Q (Stands ρ β0 hpF) n listed a w
 | n, listed, [], done, β, st, a, w, hL, hN, hst, hx, hl, hs, h => by
  have h' : Later ρ w0 M gl β st.hp st (Q .normal) := by cases n <;> exact h
  refine wpAnyH_done ?_ (h' β a w (Ext.refl _ _) (Nat.le_refl _) (Stay.refl _) hst) _; cases hr : Region.ready .any ops listed with
  | nil => rfl
  | cons i l =>
   obtain ⟨x, hx, _⟩ := hL.ready_in (i := i) (by rw [hr]; exact lHd ..)
   cases hx
 | 0, listed, x :: todo, done, β, st, a, w, hL, hN, hst, hx, hl, hs, h => h.elim
 | n + 1, listed, y :: ys, done, β, st, a, w, hL, hN, hst, hx, hl, hs, h => by
  generalize htd : y :: ys = todo at *; have hSw : Stands ρ β0 hpF w := Stands.of hgood hx hs hst.heap
  have step : ∀ (p : Oi × List Oi) (fs : Fs), p ∈ readyM done todo -> Conc ρ w0 M gl β { st with facts := fs } a w ->
    (((runOp P gl call ops p.1.o { st with facts := fs }).bind (anyOps P gl call (visible hpF) ops n p.2 (done ||| bitM p.1.i))).holds ρ fun st' => Later ρ w0 M gl β st.hp st' (Q .normal)) ->
    wpOp P ops Q p.1.i (fun a' w' => Stands ρ β0 hpF w' /\ wpAnyH P .any ops Q (Stands ρ β0 hpF) n (listed.setIfInBounds p.1.i true) a' w') a w := fun p fs hp hst' h' => by
   obtain ⟨p1, p2, p3, p4, p5⟩ := readyM_spec hp hN; obtain ⟨o, ho, _, he⟩ := hL.only p.1 p1; have hoo : p.1.o = o := by rw [he]
   rw [hoo, T.holds_bind] at h'
   have key : ∀ st1, ((anyOps P gl call (visible hpF) ops n p.2 (done ||| bitM p.1.i) st1).holds ρ fun st' => Later ρ w0 M gl β st.hp st' (Q .normal)) ->
     Later ρ w0 M gl β st.hp st1 (fun a' w' => Stands ρ β0 hpF w' /\ wpAnyH P .any ops Q (Stands ρ β0 hpF) n (listed.setIfInBounds p.1.i true) a' w') :=
    fun st1 h1 β' a' w' hx' hl' hs' hst1 => by
     have hx2 : Ext hpF.n β0 β' := hx.trans hx' hl; have hs2 := hs.trans hs'; refine ⟨Stands.of hgood hx2 hs2 hst1.heap, ?_⟩; exact anyOps_run hc hsel hgood hQ n _ p.2 _ β' st1 a' w' (hL.next p1 p3 p4) p5 hst1 hx2 (Nat.le_trans hl hl') hs2 (T.holds_mono (fun st'' h'' => h''.trans hx' hl' hs') h1)
   unfold wpOp; simp only [ho]; rcases runOp_run hc hst' Q (T.holds_mono key h') with ⟨h1, h2⟩ | ⟨h1, h2⟩
   ·simp only [h1, if_true]; exact .inl h2
   ·simp only [h1, Bool.false_eq_true, if_false]; exact h2
  have take : ∀ (fs : Fs) (x : Oi) (r : SV) (l : List Oi), pickM P gl (visible hpF) ops done { st with facts := fs } todo = some (x, r, l) -> Conc ρ w0 M gl β { st with facts := fs } a w ->
    ((anyOps P gl call (visible hpF) ops n l (done ||| bitM x.i) ({ st with facts := fs }.put x.o.dst r)).holds ρ fun st' => Later ρ w0 M gl β st.hp st' (Q .normal)) -> wpAnyH P .any ops Q (Stands ρ β0 hpF) (n + 1) listed a w := fun fs x r l hp hst' h' => by
   obtain ⟨p1, p2, p3, p4, p5⟩ := pickM_spec hp hN; obtain ⟨o, ho, _, he⟩ := hL.only x p1; have hoo : x.o = o := by rw [he]
   have hy : isIn x.dep done = true /\ isIn x.fr done = true /\ YieldsIf P ops (Stands ρ β0 hpF) o (r.ev ρ β) a /\ r.ok ρ st.hp.n := by
    unfold yieldM at p2; rw [hoo] at p2; split at p2
    ·rename_i hd
     split at p2
     ·rename_i hw
      split at p2
      ·rename_i hf
       obtain rfl := sinj p2; exact ⟨hd, hf, .inr ⟨wants_spec hst' hw, rfl⟩, trivial⟩
      ·cases p2
     ·rename_i hw
      split at p2
      ·rename_i hf
       exact ⟨hd, hf, .inl ⟨wants_spec hst' hw, fun w' hw' => (pureS'_run hst'.get_ev hst'.get_ok (Stands.sees hgood hx hl hw') hst'.facts p2).1⟩, (pureS'_run hst'.get_ev hst'.get_ok (Stands.sees hgood hx hl hSw) hst'.facts p2).2⟩
      ·cases p2
     ·cases p2
    ·cases p2
   obtain ⟨y1, y2, y3, y4⟩ := hy; rw [hoo] at h'; refine wpAnyH_take ho hsel (hL.free p1 y2) (by simpa using hL.in_ready p1 y1) (fun c a w hq => hQ c _ _ a w hq) y3 hSw ?_
   refine anyOps_run hc hsel hgood hQ n _ l _ β _ _ w (hL.next p1 p3 p4) p5 (hst'.put y4 o.dst) hx (by rw [St.put_hp]; exact hl) (by rw [St.put_hp]; exact hs) (T.holds_mono (fun st'' h'' => ?_) h')
   rw [St.put_hp]; exact h''
  have h' : (match pickM P gl (visible hpF) ops done st todo with
   | some (x, r, l) => anyOps P gl call (visible hpF) ops n l (done ||| bitM x.i) (st.put x.o.dst r)
   | none => resolveE (asks ops st ((readyM done todo).map fun p : Oi × List Oi => p.1)) st.facts fun fs =>
    match pickM P gl (visible hpF) ops done { st with facts := fs } todo with
    | some (x, r, l) => anyOps P gl call (visible hpF) ops n l (done ||| bitM x.i) ({ st with facts := fs }.put x.o.dst r)
    | none => allT (fun p : Oi × List Oi => (runOp P gl call ops p.1.o { st with facts := fs }).bind (anyOps P gl call (visible hpF) ops n p.2 (done ||| bitM p.1.i))) (readyM done todo)).holds ρ fun st' => Later ρ w0 M gl β st.hp st' (Q .normal) := by
   rw [<- htd] at h ⊢; exact h
  clear h; split at h'
  ·rename_i x r l hp
   exact take st.facts x r l hp hst h'
  ·obtain ⟨fs', hf', h2⟩ := resolveE_holds hst.facts h'
   have hst' := hst.facts_to hf'; split at h2
   ·rename_i x r l hp
    exact take fs' x r l hp hst' h2
   ·have hall := allT_holds h2
    cases hr : Region.ready .any ops listed with
    | nil =>
     exfalso
     cases hrm : readyM done todo with
     | nil => rw [hrm] at h2; exact h2
     | cons p l =>
      have hp : p ∈ readyM done todo := by rw [hrm]; exact lHd ..
      obtain ⟨p1, p2, _⟩ := readyM_spec hp hN; have := hL.in_ready p1 p2; rw [hr] at this; cases this
    | cons i0 l0 =>
     refine wpAnyH_all hr (by simp) fun j hj => ?_
     rw [<- hr] at hj; obtain ⟨x, hx1, rfl, hx2⟩ := hL.ready_in hj; obtain ⟨p, hp, rfl⟩ := readyM_all hx1 hx2; exact step p fs' hp hst' (hall p hp)
def srcOf (t : Nat) : List Oper -> Option (Option Nat)
 | [] => none
 | o :: l => if o.dst = some t then some (match o.op with
   | .move (.tmp u) | .assign (.tmp u) | .nilCheck (.tmp u) | .fieldAddr _ (.tmp u) _ | .indexAddr _ (.tmp u) _ => some u
   | _ => none) else srcOf t l
def rootOf (l : List Oper) : Nat -> Nat -> Option Nat
 | 0, _ => none
 | n + 1, t => match srcOf t l with
  | none => some t
  | some (some u) => rootOf l n u
  | some none => none
def loadRoots (all : List Oper) : List Oper -> List Nat
 | [] => []
 | o :: l => match o.op with
  | .load _ (.tmp t) => match rootOf all 6 t with
   | some r => r :: loadRoots all l
   | none => loadRoots all l
  | _ => loadRoots all l
def storeRoots (all : List Oper) : List Oper -> List Nat
 | [] => []
 | o :: l => match o.op with
  | .store _ (.tmp t) _ => match rootOf all 6 t with
   | some r => r :: storeRoots all l
   | none => storeRoots all l
  | _ => storeRoots all l
def boxesOf (st : St) : List Nat -> List Nat
 | [] => []
 | t :: l => match st.tmp? t with
  | some (.ptr b _) => b :: boxesOf st l
  | some (.slice b _ _ _) => b :: boxesOf st l
  | _ => boxesOf st l
def frozenIn (ops : Array Oper) (keep : List Nat) (st : St) : List Nat :=
 let w := boxesOf st (storeRoots ops.toList ops.toList ++ keep)
 (boxesOf st (loadRoots ops.toList ops.toList)).filter fun b => !w.contains b
def anyRegion (P : Program) (gl : Gl) (call : Caller) (keep : List Nat) (ops : Array Oper) (st : St) : T St :=
 if Region.noSelect ops then
  let hpF := freezeH (frozenIn ops keep st) st.hp
  (anyOps P gl call (visible hpF) ops ops.size (infosFrom ops 0 ops.toList) 0 { st with hp := hpF }).bind fun st' => .ok { st' with hp := thaw st.hp st'.hp }
 else .bad 134
theorem anyRegion_run {call : Caller} (hc : CallOk P ρ w0 M gl call) (hm : P.follows .mixedOrders = true) {id : Nat} {keep : List Nat} {ops : Array Oper} {Q : Exit -> Act -> World -> Prop} {st : St} {a : Act} (hst : Conc ρ w0 M gl β st a w)
  (h : (anyRegion P gl call keep ops st).holds ρ fun st' => Later ρ w0 M gl β st.hp st' (Q .normal)) : (Code.region id ops true).wp P Q a w := by
 unfold anyRegion at h; split at h
 ·rename_i hsel
  simp only at h; generalize hk : frozenIn ops keep st = kk at h; rw [T.holds_bind] at h; have hF := hst.heap.freeze kk; have hw1 : Below w.heap.size w { w with drawn := w.drawn + 1 } := (Below.refl _ _).drew
  have hst1 : Conc ρ w0 M gl β { st with hp := freezeH kk st.hp } a { w with drawn := w.drawn + 1 } :=
   ⟨hst.size, hst.tmps, hst.defers, hst.good, hF.below hw1, hst.facts, by rw [freeze_length]; exact hst.gl⟩
  refine Code.wp_mono (Q := fun e a w => match e with | .normal => Q .normal a w | _ => False) (fun e a w he => ?_) ?_
  ·cases e <;> first | exact he | exact he.elim
  refine wp_region_held (S := Stands ρ β (freezeH kk st.hp)) hm ?_; refine anyOps_run hc hsel (fun k b hb => hF.good k b hb) (fun _ _ _ _ _ h => h) _ _ _ _ β _ a _ (left_start ops) nd_infos hst1 (Ext.refl _ _) (Nat.le_refl _) (Stay.refl _) ?_
  refine T.holds_mono (fun st' h' => ?_) h
  intro β' a' w' hx hl hs hc'; have hx' : Ext st.hp.n β β' := by have := hx; rwa [freeze_length] at this
  have hl' : st.hp.n <= st'.hp.n := by have := hl; rwa [freeze_length] at this
  refine h' β' a' w' hx' (by simp only; rw [thaw_length]; exact hl') (stay_thaw hs) ?_
  exact ⟨hc'.size, hc'.tmps, hc'.defers, hc'.good, hst.heap.thaw_ hx' hc'.heap, hc'.facts, by simp only; rw [thaw_length]; exact hc'.gl⟩
 ·exact h.elim
end
def rawBeq : Value -> Value -> Bool
 | .slice none a b, .slice none c d => a == c && b == d
 | .pointer none, .pointer none => true
 | .tuple xs, .tuple ys => xs.size == 0 && ys.size == 0
 | _, _ => false
theorem rawBeq_eq : ∀ {a b : Value}, rawBeq a b = true -> a = b := by
 intro a b h; unfold rawBeq at h; split at h
 ·simp only [bAnd, beq_iff_eq] at h; rw [h.1, h.2]
 ·rfl
 ·simp only [bAnd, beq_iff_eq] at h
  rename_i xs ys; rw [Array.eq_empty_of_size_eq_zero h.1, Array.eq_empty_of_size_eq_zero h.2]
 ·cases h
mutual
def SV.beq : SV -> SV -> Bool
 | .int k e, .int j f => kTag k == kTag j && e.beq f
 | .bool e, .bool f => e.beq f
 | .ptr b o, .ptr c q => b == c && o == q
 | .slice b o l c, .slice b' o' l' c' => b == b' && o == o' && l == l' && c == c'
 | .map b, .map c => b == c
 | .str l, .str m => E.beqs l m
 | .raw v, .raw u => rawBeq v u
 | .agg l, .agg m => SV.beqs l m
 | .tuple l, .tuple m => SV.beqs l m
 | .func f x y, .func g u v => f == g && SV.beqs x u && SV.beqs y v
 | .inp k z o a b c, .inp k' z' o' a' b' c' => k == k' && z == z' && o == o' && a.beq a' && b.beq b' && c.beq c'
 | .iptr k z a i o, .iptr k' z' a' i' o' => k == k' && z == z' && a.beq a' && i.beq i' && o == o'
 | _, _ => false
def SV.beqs : List SV -> List SV -> Bool
 | [], [] => true
 | a :: l, b :: m => SV.beq a b && SV.beqs l m
 | _, _ => false
end
mutual
theorem SV.beq_eq : ∀ (a b : SV), SV.beq a b = true -> a = b
 | .int k e, b, h => by
  cases b <;> simp [SV.beq] at h
  rw [kTag_inj h.1, E.beq_eq _ _ h.2]
 | .bool e, b, h => by cases b <;> simp [SV.beq] at h; rw [E.beq_eq _ _ h]
 | .ptr _ _, b, h => by cases b <;> simp [SV.beq] at h; rw [h.1, h.2]
 | .slice _ _ _ _, b, h => by cases b <;> simp [SV.beq] at h; rw [h.1.1.1, h.1.1.2, h.1.2, h.2]
 | .map _, b, h => by cases b <;> simp [SV.beq] at h; rw [h]
 | .str l, b, h => by cases b <;> simp [SV.beq] at h; rw [E.beqs_eq _ _ h]
 | .raw v, b, h => by cases b <;> simp [SV.beq] at h; rw [rawBeq_eq h]
 | .agg l, b, h => by cases b <;> simp [SV.beq] at h; rw [SV.beqs_eq _ _ h]
 | .tuple l, b, h => by cases b <;> simp [SV.beq] at h; rw [SV.beqs_eq _ _ h]
 | .func f x y, b, h => by
  cases b <;> simp [SV.beq] at h
  rw [h.1.1, SV.beqs_eq _ _ h.1.2, SV.beqs_eq _ _ h.2]
 | .inp k z o a b c, d, h => by
  cases d <;> simp [SV.beq] at h
  obtain ⟨⟨⟨⟨⟨h1, h2⟩, h3⟩, h4⟩, h5⟩, h6⟩ := h; rw [h1, h2, h3, E.beq_eq _ _ h4, E.beq_eq _ _ h5, E.beq_eq _ _ h6]
 | .iptr k z a i o, d, h => by
  cases d <;> simp [SV.beq] at h
  obtain ⟨⟨⟨⟨h1, h2⟩, h3⟩, h4⟩, h5⟩ := h; rw [h1, h2, E.beq_eq _ _ h3, E.beq_eq _ _ h4, h5]
theorem SV.beqs_eq : ∀ (a b : List SV), SV.beqs a b = true -> a = b
 | [], b, h => by cases b <;> simp [SV.beqs] at h; rfl
 | x :: l, b, h => by
  cases b <;> simp [SV.beqs] at h
  rw [SV.beq_eq _ _ h.1, SV.beqs_eq _ _ h.2]
end
def entsBeq : List (SV × SV × Nat) -> List (SV × SV × Nat) -> Bool
 | [], [] => true
 | (a, b, n) :: l, (c, d, m) :: l' => a.beq c && b.beq d && n == m && entsBeq l l'
 | _, _ => false
theorem entsBeq_eq : ∀ {l m : List (SV × SV × Nat)}, entsBeq l m = true -> l = m
 | [], [], _ => rfl
 | [], _ :: _, h => by cases h
 | _ :: _, [], h => by cases h
 | (a, b, n) :: l, (c, d, m) :: l', h => by
  simp only [entsBeq, bAnd, beq_iff_eq] at h; rw [SV.beq_eq _ _ h.1.1.1, SV.beq_eq _ _ h.1.1.2, h.1.2, entsBeq_eq h.2]
def Bx.beq : Bx -> Bx -> Bool
 | .map l c, .map m d => entsBeq l m && c == d
 | .cells c ty t, .cells d tz u => SV.beqs c d && ty == tz && t == u
 | .ro c m, .ro d k => SV.beqs c d && m == k
 | .gone, .gone => true
 | .obj q l, .obj r m => q == r && E.beqs l m
 | .arr a ks l, .arr a' ks' l' => a == a' && (ks.map (Lk.code · 0) == ks'.map (Lk.code · 0)) && l.beq l' && (ks.all fun k => match k with | .bool => false | _ => true) && (ks'.all fun k => match k with | .bool => false | _ => true)
 | _, _ => false
theorem code_inj : ∀ {ks ks' : List Lk}, ks.map (Lk.code · 0) = ks'.map (Lk.code · 0) -> (ks.all fun k => match k with | .bool => false | _ => true) = true -> (ks'.all fun k => match k with | .bool => false | _ => true) = true -> ks = ks'
 | [], [], _, _, _ => rfl
 | [], _ :: _, h, _, _ => by simp at h
 | _ :: _, [], h, _, _ => by simp at h
 | k :: ks, k' :: ks', h, h1, h2 => by
  simp only [List.map_cons, List.cons.injEq] at h; simp only [List.all_cons, bAnd] at h1 h2; rw [code_inj h.2 h1.2 h2.2]; cases k with
  | bool => cases h1.1
  | int i => cases k' with
   | bool => cases h2.1
   | int j =>
    have : kTag i = kTag j := by simpa [Lk.code] using h.1
    rw [kTag_inj this]
theorem Bx.beq_eq {a b : Bx} (h : a.beq b = true) : a = b := by
 unfold Bx.beq at h; split at h
 ·simp only [bAnd, beq_iff_eq] at h
  rw [entsBeq_eq h.1, h.2]
 ·simp only [bAnd, beq_iff_eq] at h
  rw [SV.beqs_eq _ _ h.1.1, h.1.2, h.2]
 ·simp only [bAnd, beq_iff_eq] at h
  rw [SV.beqs_eq _ _ h.1, h.2]
 ·rfl
 ·simp only [bAnd, beq_iff_eq] at h
  rw [h.1, E.beqs_eq _ _ h.2]
 ·simp only [bAnd, beq_iff_eq] at h
  obtain ⟨⟨⟨⟨h1, h2⟩, h3⟩, h4⟩, h5⟩ := h; rw [h1, E.beq_eq _ _ h3, code_inj h2 h4 h5]
 ·cases h
def allN (p : Nat -> Bool) : Nat -> Bool
 | 0 => true
 | n + 1 => allN p n && p n
theorem allN_spec {p : Nat -> Bool} : ∀ {n : Nat}, allN p n = true -> ∀ i, i < n -> p i = true
 | 0, _, i, h => absurd h (Nat.not_lt_zero i)
 | n + 1, h, i, hi => by
  simp only [allN, bAnd] at h
  by_cases he : i = n
  ·rw [he]; exact h.2
  ·exact allN_spec h.1 i (by omega)
def fsBeq : List (E × Bool) -> List (E × Bool) -> Bool
 | [], [] => true
 | (a, b) :: l, (c, d) :: m => a.beq c && b == d && fsBeq l m
 | _, _ => false
theorem fsBeq_eq : ∀ {a b : List (E × Bool)}, fsBeq a b = true -> a = b
 | [], [], _ => rfl
 | [], _ :: _, h => by cases h
 | _ :: _, [], h => by cases h
 | (a, b) :: l, (c, d) :: m, h => by
  simp only [fsBeq, bAnd, beq_iff_eq] at h; rw [E.beq_eq _ _ h.1.1, h.1.2, fsBeq_eq h.2]
def St.same (s t : St) : Bool := s.sz == t.sz && allN (fun i => (s.tmps i).beq (t.tmps i)) s.sz && s.hp.n == t.hp.n && allN (fun k => (s.hp.box k).rw == (t.hp.box k).rw && (s.hp.box k).c.beq (t.hp.box k).c) s.hp.n && fsBeq s.facts t.facts
theorem St.same_spec {s t : St} (h : s.same t = true) : s.sz = t.sz /\ (∀ i, i < s.sz -> s.tmps i = t.tmps i) /\ s.hp.n = t.hp.n /\ (∀ k, s.hp.at k = t.hp.at k) /\ s.facts = t.facts := by
 simp only [St.same, bAnd, beq_iff_eq] at h; obtain ⟨⟨⟨⟨h1, h2⟩, h3⟩, h4⟩, h5⟩ := h; refine ⟨h1, fun i hi => SV.beq_eq _ _ (allN_spec h2 i hi), h3, fun k => ?_, fsBeq_eq h5⟩
 unfold Hp.at; rw [blt_iff, blt_iff, <- h3]
 by_cases hk : k < s.hp.n
 ·have := allN_spec h4 k hk
  simp only [bAnd, beq_iff_eq] at this
  have hb : s.hp.box k = t.hp.box k := by
   have h6 := Bx.beq_eq this.2; have h7 := this.1; generalize s.hp.box k = x at *; generalize t.hp.box k = y at *; obtain ⟨r, c⟩ := x; obtain ⟨r', c'⟩ := y; simp only at h6 h7; rw [h6, h7]
  simp [hk, hb]
 ·simp [hk]
section
variable {ρ : Env} {w0 : World} {M : Nat -> Prop} {gl : Gl} {β : Bm} {w : World} {hp : Hp}
theorem Conc.same {s t : St} {a : Act} (h : s.same t = true) (hc : Conc ρ w0 M gl β t a w) : Conc ρ w0 M gl β s a w := by
 obtain ⟨h1, h2, h3, h4, h5⟩ := St.same_spec h; refine ⟨by rw [h1]; exact hc.size, fun i hi => by rw [h2 i hi]; exact hc.tmps i (h1 ▸ hi), hc.defers, fun i hi => by rw [h2 i hi, h3]; exact hc.good i (h1 ▸ hi), ?_, by rw [h5]; exact hc.facts, by rw [h3]; exact hc.gl⟩
 have hh := hc.heap; exact ⟨fun k b hk => hh.lies k b (h4 k ▸ hk), fun j k b b' hj hk => hh.inj j k b b' (h4 j ▸ hj) (h4 k ▸ hk), fun k b hk => hh.mine k b (h4 k ▸ hk), fun k b hk => by rw [h3]; exact hh.good k b (h4 k ▸ hk), hh.kept, fun k b hk => hh.arrs k b (h4 k ▸ hk), hh.objs.imp fun φ ho => ho.to (fun k b hk _ => ⟨b, h4 k ▸ hk, rfl, rfl⟩) (fun k b hk hv => .inl ⟨k, b, h4 k ▸ hk, hv, rfl⟩) (fun _ _ _ _ _ _ => rfl)⟩
theorem Later.same {s t : St} {K : Act -> World -> Prop} (hl : Later ρ w0 M gl β hp s K) (h : s.same t = true) : Later ρ w0 M gl β hp t K := fun β' a' w' hx hn hs hc => by
 obtain ⟨h1, h2, h3, h4, h5⟩ := St.same_spec h; exact hl β' a' w' hx (by rw [h3]; exact hn) (fun k b hk hr => by rw [h4]; exact hs k b hk hr) (hc.same h)
end
def T.same : T St -> T St -> Bool
 | .ok s, .ok t => s.same t
 | .br c a b, .br d e f => c.beq d && a.same e && b.same f
 | _, _ => false
def T.dd : T St -> T St
 | .ok s => .ok s
 | .br c a b => .br c a.dd b.dd
 | .both a b => if a.dd.same b.dd then a.dd else .both a.dd b.dd
 | .bad n => .bad n
theorem T.same_holds {ρ : Env} {Q : St -> Prop} (hQ : ∀ s t : St, s.same t = true -> Q s -> Q t) : ∀ {a b : T St}, a.same b = true -> a.holds ρ Q -> b.holds ρ Q
 | .ok s, b, h, hh => by
  cases b with
  | ok t => exact hQ s t h hh
  | _ => cases h
 | .br c x y, b, h, hh => by
  cases b with
  | br d e f =>
   simp only [T.same, bAnd] at h; have hcd := E.beq_eq _ _ h.1.1; subst hcd; exact ⟨fun h1 => T.same_holds hQ h.1.2 (hh.1 h1), fun h1 => T.same_holds hQ h.2 (hh.2 h1)⟩
  | _ => cases h
 | .both _ _, b, h, _ => by cases b <;> cases h
 | .bad _, b, h, _ => by cases b <;> cases h
theorem T.dd_holds {ρ : Env} {Q : St -> Prop} (hQ : ∀ s t : St, s.same t = true -> Q s -> Q t) : ∀ {a : T St}, a.dd.holds ρ Q -> a.holds ρ Q
 | .ok _, h => h
 | .br _ _ _, h => ⟨fun h1 => T.dd_holds hQ (h.1 h1), fun h1 => T.dd_holds hQ (h.2 h1)⟩
 | .both a b, h => by
  unfold T.dd at h; split at h
  ·rename_i hs
   exact ⟨T.dd_holds hQ h, T.dd_holds hQ (T.same_holds hQ hs h)⟩
  ·exact ⟨T.dd_holds hQ h.1, T.dd_holds hQ h.2⟩
 | .bad _, h => h
inductive Ex where
 | normal | exit (id : Nat) | ret
def Ex.to : Ex -> Exit
 | .normal => .normal
 | .exit id => .exit id
 | .ret => .ret
structure Rs where
 x : Ex
 st : St
def loopN (f : St -> T Rs) : Nat -> St -> T Rs
 | 0, _ => .bad 140
 | n + 1, st => (f st).bind fun r => match r.x with
  | .normal => loopN f n r.st
  | _ => .ok r
def exec (P : Program) (gl : Gl) (call : Caller) (keep : Nat -> List Nat) (fuel : Nat) : Code -> St -> T Rs
 | .skip, st => .ok ⟨.normal, st⟩
 | .label _, st => .ok ⟨.normal, st⟩
 | .region id ops draw, st => (if draw then (anyRegion P gl call (keep id) ops st).dd else seqOps P gl call ops ops.toList st).bind fun st => .ok ⟨.normal, st⟩
 | .seq a b, st => (exec P gl call keep fuel a st).bind fun r => match r.x with
  | .normal => exec P gl call keep fuel b r.st
  | _ => .ok r
 | .cond c a b, st => match st.get gl c with
  | .bool e => split st.facts e (fun fs => exec P gl call keep fuel a { st with facts := fs }) (fun fs => exec P gl call keep fuel b { st with facts := fs })
  | _ => .bad 141
 | .block id c, st => (exec P gl call keep fuel c st).bind fun r => .ok ⟨match r.x with
  | .exit j => if j = id then .normal else .exit j
  | x => x, r.st⟩
 | .loop c, st => loopN (exec P gl call keep fuel c) fuel st
 | .scope c, st => exec P gl call keep fuel c st
 | .exit id, st => .ok ⟨.exit id, st⟩
 | .ret, st => .ok ⟨.ret, st⟩
 | _, _ => .bad 142
section
variable {P : Program} {ρ : Env} {w0 : World} {M : Nat -> Prop} {gl : Gl} {w : World} {hp : Hp} {fs : Fs}
def Ends (ρ : Env) (w0 : World) (M : Nat -> Prop) (gl : Gl) (β : Bm) (hp : Hp) (Q : Exit -> Act -> World -> Prop) (r : Rs) : Prop := Later ρ w0 M gl β hp r.st (Q r.x.to)
theorem Ends.trans {β β1 : Bm} {st1 : St} {Q : Exit -> Act -> World -> Prop} {r : Rs} (hx : Ext hp.n β β1) (hl : hp.n <= st1.hp.n) (hs : Stay hp st1.hp) (h : Ends ρ w0 M gl β hp Q r) : Ends ρ w0 M gl β1 st1.hp Q r := Later.trans hx hl hs h
theorem loopN_run {c : Code} {f : St -> T Rs}
  (hf : ∀ (β : Bm) (st : St) (a : Act) (w : World) (Q : Exit -> Act -> World -> Prop), Conc ρ w0 M gl β st a w -> ((f st).holds ρ (Ends ρ w0 M gl β st.hp Q)) -> c.wp P Q a w) :
  ∀ (n : Nat) (β : Bm) (st : St) (a : Act) (w : World) (Q : Exit -> Act -> World -> Prop), Conc ρ w0 M gl β st a w -> ((loopN f n st).holds ρ (Ends ρ w0 M gl β st.hp Q)) -> Code.rounds P c Q n a w
 | 0, _, _, _, _, _, _, h => h.elim
 | n + 1, β, st, a, w, Q, hst, h => by
  unfold loopN at h; rw [T.holds_bind] at h; rw [rounds_succ]; refine hf β st a w _ hst (T.holds_mono (fun r hr => ?_) h)
  obtain ⟨x, st'⟩ := r; cases x with
  | normal => exact fun β' a' w' hx hl hs hc => loopN_run hf n β' st' a' w' Q hc (T.holds_mono (fun r' hr' => hr'.trans hx hl hs) hr)
  | exit id => exact hr
  | ret => exact hr
theorem exec_run {call : Caller} (hc : CallOk P ρ w0 M gl call) (hm : P.follows .mixedOrders = true) {keep : Nat -> List Nat} {fuel : Nat} :
  ∀ (c : Code) (β : Bm) (st : St) (a : Act) (w : World) (Q : Exit -> Act -> World -> Prop), Conc ρ w0 M gl β st a w -> ((exec P gl call keep fuel c st).holds ρ (Ends ρ w0 M gl β st.hp Q)) -> c.wp P Q a w
 | .skip, β, st, a, w, Q, hst, h => wp_skip (h β a w (Ext.refl _ _) (Nat.le_refl _) (Stay.refl _) hst)
 | .label _, β, st, a, w, Q, hst, h => wp_label (h β a w (Ext.refl _ _) (Nat.le_refl _) (Stay.refl _) hst)
 | .exit _, β, st, a, w, Q, hst, h => wp_exit (h β a w (Ext.refl _ _) (Nat.le_refl _) (Stay.refl _) hst)
 | .ret, β, st, a, w, Q, hst, h => wp_ret (h β a w (Ext.refl _ _) (Nat.le_refl _) (Stay.refl _) hst)
 | .region id ops draw, β, st, a, w, Q, hst, h => by
  unfold exec at h; rw [T.holds_bind] at h; cases draw with
  | true => exact anyRegion_run hc hm hst (T.dd_holds (fun s t hs hq => hq.same hs) h)
  | false => exact seqRegion_run hc hst h
 | .seq x y, β, st, a, w, Q, hst, h => by
  unfold exec at h; rw [T.holds_bind] at h; refine wp_seq (exec_run hc hm x β st a w _ hst (T.holds_mono (fun r hr => ?_) h))
  obtain ⟨e, st'⟩ := r; cases e with
  | normal => exact fun β' a' w' hx hl hs hc' => exec_run hc hm y β' st' a' w' Q hc' (T.holds_mono (fun r' hr' => hr'.trans hx hl hs) hr)
  | exit id => exact hr
  | ret => exact hr
 | .cond c x y, β, st, a, w, Q, hst, h => by
  unfold exec at h; split at h
  ·rename_i e he
   have hev := hst.get_ev c; rw [he] at hev; obtain ⟨fs', hf', h'⟩ := split_holds hst.facts h; have hst' := hst.facts_to hf'; rcases h' with ⟨h1, h2⟩ | ⟨h1, h2⟩
   ·exact wp_cond_true (by rw [<- hev]; simp [SV.ev, h1]) (exec_run hc hm x β _ a w Q hst' h2)
   ·exact wp_cond_false (by rw [<- hev]; simp [SV.ev, h1]) (exec_run hc hm y β _ a w Q hst' h2)
  ·exact h.elim
 | .block id c, β, st, a, w, Q, hst, h => by
  unfold exec at h; rw [T.holds_bind] at h; refine wp_block (exec_run hc hm c β st a w _ hst (T.holds_mono (fun r hr => ?_) h))
  obtain ⟨e, st'⟩ := r; cases e with
  | normal => exact hr
  | exit j =>
   intro β' a' w' hx hl hs hc'; have := hr β' a' w' hx hl hs hc'; simp only at this; show Exit.inBlock id Q (.exit j) a' w'; unfold Exit.inBlock; simp only; split
   ·rename_i he; rw [if_pos he] at this; exact this
   ·rename_i he; rw [if_neg he] at this; exact this
  | ret => exact hr
 | .loop c, β, st, a, w, Q, hst, h => wp_loop_rounds fuel (loopN_run (fun β st a w Q h1 h2 => exec_run hc hm c β st a w Q h1 h2) fuel β st a w Q hst h)
 | .scope c, β, st, a, w, Q, hst, h => by
  unfold exec at h; refine wp_scope_straight (exec_run hc hm c β st a w _ hst (T.holds_mono (fun r hr => ?_) h))
  obtain ⟨e, st'⟩ := r; cases e <;> exact hr
 | .rangeFunc _ _ _ _, _, _, _, _, _, _, h => h.elim
 | .goto _, _, _, _, _, _, _, h => h.elim
 | .refuse _, _, _, _, _, _, _, h => h.elim
end
abbrev Sums := FuncId -> List SV -> Option SV
def resultsS (P : Program) (st : St) : List ResultVar -> Option (List SV)
 | [] => some []
 | r :: l => match (match r with
   | .tmp t => some (st.get [] (.tmp t))
   | .cell a t => loadS P st.hp t (st.get [] (.tmp a))), resultsS P st l with
  | some v, some vs => some (v :: vs)
  | _, _ => none
def packS : List SV -> SV
 | [v] => v
 | vs => .tuple vs
mutual
def canonS (fs : Fs) : SV -> SV
 | .int k e => .int k (canon fs e)
 | .bool e => .bool (canon fs e)
 | .agg l => .agg (canonL fs l)
 | s => s
def canonL (fs : Fs) : List SV -> List SV
 | [] => []
 | s :: l => canonS fs s :: canonL fs l
end
mutual
theorem canonS_spec {ρ : Env} {fs : Fs} (hf : FsOk ρ fs) (β : Bm) (n : Nat) : ∀ s : SV, (canonS fs s).ev ρ β = s.ev ρ β /\ (s.ok ρ n -> (canonS fs s).ok ρ n)
 | .int k e => by
  have := canon_ev (ρ := ρ) (fs := fs) hf e; exact ⟨by simp only [canonS, SV.ev, this], fun h => by simp only [canonS, SV.ok, this] at *; exact h⟩
 | .bool e => by
  have := canon_ev (ρ := ρ) (fs := fs) hf e; exact ⟨by simp only [canonS, SV.ev, this], fun h => trivial⟩
 | .agg l => by
  obtain ⟨a, b⟩ := canonL_spec hf β n l; exact ⟨by simp only [canonS, SV.ev, a], b⟩
 | .ptr _ _ => ⟨rfl, id⟩
 | .slice _ _ _ _ => ⟨rfl, id⟩
 | .map _ => ⟨rfl, id⟩
 | .str _ => ⟨rfl, id⟩
 | .raw _ => ⟨rfl, id⟩
 | .tuple _ => ⟨rfl, id⟩
 | .func _ _ _ => ⟨rfl, id⟩
 | .inp _ _ _ _ _ _ => ⟨rfl, id⟩
 | .iptr _ _ _ _ _ => ⟨rfl, id⟩
theorem canonL_spec {ρ : Env} {fs : Fs} (hf : FsOk ρ fs) (β : Bm) (n : Nat) : ∀ l : List SV, SV.evs ρ β (canonL fs l) = SV.evs ρ β l /\ (SV.oks ρ n l -> SV.oks ρ n (canonL fs l))
 | [] => ⟨rfl, id⟩
 | s :: l => by
  obtain ⟨a1, a2⟩ := canonS_spec hf β n s; obtain ⟨b1, b2⟩ := canonL_spec hf β n l; exact ⟨by simp only [canonL, SV.evs, a1, b1], fun h => ⟨a2 h.1, b2 h.2⟩⟩
end
def callF (P : Program) (gl : Gl) (okF : FuncId -> Bool) (sums : Sums) (keep : FuncId -> Nat -> List Nat) (fuel : Nat) : Nat -> Caller
 | 0, _, _, _, _ => .bad 150
 | n + 1, f, args, hp, fs =>
  if okF f then
   match sums f args with
   | some v0 => match sums f (canonL fs args) with
    | some v => .ok ⟨v, hp, fs⟩
    | none => .ok ⟨v0, hp, fs⟩
   | none => match P.funcs[f]? with
    | some fn => match fn.body with
     | some c => (exec P gl (callF P gl okF sums keep fuel n) (keep f) fuel c { sz := args.length + (fn.ntmps - args.length), tmps := fun i => args.getD i undefS, hp := hp, facts := fs }).bind fun r => match r.x with
      | .exit _ => .bad 151
      | _ => match resultsS P r.st fn.results.toList with
       | some vs => .ok ⟨packS vs, r.st.hp, r.st.facts⟩
       | none => .bad 152
     | none => .bad 153
    | none => .bad 154
  else .bad 155
section
variable {P : Program} {ρ : Env} {w0 : World} {M : Nat -> Prop} {gl : Gl} {w : World} {hp : Hp} {fs : Fs}
def SumsOk (P : Program) (ρ : Env) (w0 : World) (M : Nat -> Prop) (sums : Sums) : Prop := ∀ (f : FuncId) (args : List SV) (v : SV), sums f args = some v -> ∀ (n : Nat) (β : Bm), SV.oks ρ n args ->
 v.ok ρ n /\ ∀ w, Kept w0 M w -> Calls P f (SV.evs ρ β args).toArray w fun e w' => e = .returned (v.ev ρ β) /\ Below w.heap.size w w'
def rvSem (tmps : Array Value) : ResultVar -> Sem Value
 | .tmp t => pure (tmps.getD t undef)
 | .cell a t => do loadVar t (<- asAddr (tmps.getD a undef))
theorem results_eq (fn : Func) (tmps : Array Value) : results fn tmps = (do let vs <- fn.results.mapM (rvSem tmps); pure (if h : vs.size = 1 then vs[0] else .tuple vs)) := by
 have : (fun x : ResultVar => match x with
   | .tmp t => (pure (tmps.getD t undef) : Sem Value)
   | .cell a t => do loadVar t (<- asAddr (tmps.getD a undef))) = rvSem tmps := funext fun x => by cases x <;> rfl
 unfold results; rw [<- this]; rfl
theorem loadS_ptr {P : Program} {hp : Hp} {t : TypeId} {s v : SV} (h : loadS P hp t s = some v) : ∃ b o, s = .ptr b o := by
 unfold loadS at h; split at h
 ·rename_i b o; exact ⟨b, o, rfl⟩
 ·cases h
theorem resultsS_run {β : Bm} {st : St} {a : Act} (hst : Conc ρ w0 M gl β st a w) : ∀ {rs : List ResultVar} {vs : List SV}, resultsS P st rs = some vs ->
  (rs.mapM (rvSem a.tmps)).run P w = .ok (SV.evs ρ β vs) w /\ SV.oks ρ st.hp.n vs
 | [], vs, h => by obtain rfl := sinj h; exact ⟨rfl, trivial⟩
 | r :: l, vs, h => by
  unfold resultsS at h; split at h
  ·rename_i v vs' hv hvs
   obtain rfl := sinj h; obtain ⟨q1, q2⟩ := resultsS_run hst hvs; have hget : ∀ t, a.tmps.getD t undef = (st.get [] (.tmp t)).ev ρ β := fun t => (hst.get_ev (.tmp t)).symm
   have hr : (rvSem a.tmps r).run P w = .ok (v.ev ρ β) w /\ v.ok ρ st.hp.n := by
    cases r with
    | tmp t =>
     obtain rfl := sinj hv; exact ⟨by simp only [rvSem, Sem.run_pure, hget], hst.get_ok (.tmp t)⟩
    | cell p t =>
     simp only at hv; obtain ⟨l1, l2⟩ := loadS_run hst.heap.sees hv; obtain ⟨b, o, he⟩ := loadS_ptr hv; refine ⟨?_, l2⟩; simp only [rvSem, hget]; rw [he] at l1 ⊢
     simpa [SV.ev, asAddr, Instr.loadAt, Instr.sureAddr] using l1
   refine ⟨?_, hr.2, q2⟩; simp only [List.mapM_cons, Sem.run_bind, hr.1, aOk, q1, Sem.run_pure, SV.evs]
  ·cases h
theorem results_run {β : Bm} {st : St} {a : Act} {fn : Func} {vs : List SV} (hst : Conc ρ w0 M gl β st a w) (h : resultsS P st fn.results.toList = some vs) :
  (results fn a.tmps).run P w = .ok ((packS vs).ev ρ β) w /\ (packS vs).ok ρ st.hp.n := by
 obtain ⟨h1, h2⟩ := resultsS_run hst h; have hl : (SV.evs ρ β vs).toArray.size = vs.length := by rw [SV.evs_map]; simp
 constructor
 ·rw [results_eq, Array.mapM_eq_mapM_toList]
  simp only [Sem.run_bind, Sem.run_map, h1, aOk, Sem.run_pure]; congr 1
  match vs with
  | [] => rfl
  | [v] => rfl
  | u :: v :: l =>
   rw [dif_neg (by rw [hl]; simp)]
   rfl
 ·match vs, h2 with
  | [], _ => trivial
  | [v], h2 => exact h2.1
  | u :: v :: l, h2 => exact h2
theorem callF_run {okF : FuncId -> Bool} {sums : Sums} {keep : FuncId -> Nat -> List Nat} {fuel : Nat} (hm : P.follows .mixedOrders = true) (hok : ∀ f, okF f = true -> ∀ as w, (callFunc f as).run P w = .ok (.enter f as) w) (hsum : SumsOk P ρ w0 M sums) :
  ∀ n : Nat, CallOk P ρ w0 M gl (callF P gl okF sums keep fuel n)
 | 0 => fun f args hp fs β w K hh hf ha hg h => h.elim
 | n + 1 => fun f args hp fs β w K hh hf ha hg h => by
  unfold callF at h; split at h
  ·rename_i hof
   refine ⟨hok f hof, ?_⟩; split at h
   ·rename_i v0 hv0
    split at h
    ·rename_i v hv
     obtain ⟨c1, c2⟩ := canonL_spec hf β hp.n args; obtain ⟨v1, v2⟩ := hsum f _ v hv hp.n β (c2 ha); have v2 := v2 w hh.kept; rw [c1] at v2; refine v2.mono fun e w' ⟨he, hb⟩ => ⟨_, he, ?_⟩
     exact h β w' (Ext.refl _ _) (Nat.le_refl _) (Stay.refl _) (hh.below hb) hf v1
    ·obtain ⟨v1, v2⟩ := hsum f args v0 hv0 hp.n β ha
     refine (v2 w hh.kept).mono fun e w' ⟨he, hb⟩ => ⟨_, he, ?_⟩
     exact h β w' (Ext.refl _ _) (Nat.le_refl _) (Stay.refl _) (hh.below hb) hf v1
   ·split at h
    ·rename_i fn hfn
     split at h
     ·rename_i c hb
      unfold Goes at h; rw [T.holds_bind] at h; refine calls_of_wp hfn hb ?_
      have hst : Conc ρ w0 M gl β { sz := args.length + (fn.ntmps - args.length), tmps := fun i => args.getD i undefS, hp := hp, facts := fs } { tmps := (SV.evs ρ β args).toArray ++ Array.replicate (fn.ntmps - (SV.evs ρ β args).toArray.size) undef, defers := [] } w := by
       have hlen : (SV.evs ρ β args).toArray.size = args.length := by rw [SV.evs_map]; simp
       refine ⟨by simp [SV.evs_map], fun i hi => ?_, rfl, fun i _ => ?_, hh, hf, hg⟩
       ·simp only at hi ⊢
        by_cases hia : i < args.length
        ·rw [Array.getElem?_append_left (by rw [hlen]; exact hia), List.getElem?_toArray, SV.evs_map, lMp]
         simp [hia]
        ·rw [Array.getElem?_append_right (by rw [hlen]; omega), hlen]
         rw [Array.getElem?_replicate, if_pos (by omega)]
         simp only [List.getD, lNo (Nat.le_of_not_lt hia)]; rfl
       ·simp only [List.getD]
        cases hs : args[i]? with
        | none => trivial
        | some s => exact oks_get ha hs
      refine exec_run (callF_run hm hok hsum n) hm c β _ _ w _ hst (T.holds_mono (fun r hr => ?_) h)
      obtain ⟨x, st'⟩ := r; intro β' a' w' hx hl hs hc'; cases x with
      | exit id => exact hr.elim
      | normal =>
       simp only at hr; split at hr
       ·rename_i vs hvs
        obtain ⟨r1, r2⟩ := results_run hc' hvs; exact ⟨hc'.defers, _, r1, _, rfl, hr β' w' hx hl hs hc'.heap hc'.facts r2⟩
       ·exact hr.elim
      | ret =>
       simp only at hr; split at hr
       ·rename_i vs hvs
        obtain ⟨r1, r2⟩ := results_run hc' hvs; exact ⟨hc'.defers, _, r1, _, rfl, hr β' w' hx hl hs hc'.heap hc'.facts r2⟩
       ·exact hr.elim
     ·exact h.elim
    ·exact h.elim
  ·exact h.elim
end
mutual
def SV.flat : SV -> Bool
 | .ptr _ _ | .slice _ _ _ _ | .map _ | .inp _ _ _ _ _ _ | .iptr _ _ _ _ _ => false
 | .int _ _ | .bool _ | .raw _ | .str _ => true
 | .agg l => SV.flats l
 | .tuple l => SV.flats l
 | .func _ a b => SV.flats a && SV.flats b
def SV.flats : List SV -> Bool
 | [] => true
 | s :: l => SV.flat s && SV.flats l
end
mutual
theorem SV.ev_flat {ρ : Env} (β β' : Bm) : ∀ s : SV, s.flat = true -> s.ev ρ β = s.ev ρ β'
 | .int _ _, _ => rfl
 | .bool _, _ => rfl
 | .ptr _ _, h => by cases h
 | .slice _ _ _ _, h => by cases h
 | .map _, h => by cases h
 | .inp _ _ _ _ _ _, h => by cases h
 | .iptr _ _ _ _ _, h => by cases h
 | .str _, _ => rfl
 | .raw _, _ => rfl
 | .agg l, h => by simp only [SV.ev]; rw [SV.evs_flat β β' l h]
 | .tuple l, h => by simp only [SV.ev]; rw [SV.evs_flat β β' l h]
 | .func _ x y, h => by
  simp only [SV.flat, bAnd] at h; simp only [SV.ev]; rw [SV.evs_flat β β' x h.1, SV.evs_flat β β' y h.2]
theorem SV.evs_flat {ρ : Env} (β β' : Bm) : ∀ l : List SV, SV.flats l = true -> SV.evs ρ β l = SV.evs ρ β' l
 | [], _ => rfl
 | s :: l, h => by
  simp only [SV.flats, bAnd] at h; simp only [SV.evs]; rw [SV.ev_flat β β' s h.1, SV.evs_flat β β' l h.2]
end
def β0 : Bm := fun _ => (0, 0)
def T.all {α : Type} (p : α -> Bool) : T α -> Bool
 | .ok a => p a
 | .br _ t e => t.all p && e.all p
 | .both t e => t.all p && e.all p
 | .bad _ => false
theorem T.all_holds {α : Type} {p : α -> Bool} {ρ : Env} : ∀ {t : T α}, t.all p = true -> t.holds ρ fun a => p a = true
 | .ok a, h => h
 | .br c t e, h => by
  simp only [T.all, bAnd] at h; exact ⟨fun _ => T.all_holds h.1, fun _ => T.all_holds h.2⟩
 | .both t e, h => by
  simp only [T.all, bAnd] at h; exact ⟨T.all_holds h.1, T.all_holds h.2⟩
 | .bad _, h => by cases h
def isTrue (o : Out) : Bool :=
 match o.v with
 | .bool (.lit n) => n != 0
 | _ => false
section
variable {P : Program} {ρ : Env} {w : World}
theorem Kept.to_below {w w' : World} (h : Kept w (fun _ => False) w') : Below w.heap.size w w' := ⟨h.os, h.tape, h.output, h.size, fun i hi => h.block i hi fun e => e⟩
theorem heap_nil (ρ : Env) (w : World) (M : Nat -> Prop) (β : Bm) : Heap ρ w M β .nil w :=
 ⟨fun k b h => absurd (Hp.at_lt h) (Nat.not_lt_zero k), fun j k b b' h => absurd (Hp.at_lt h) (Nat.not_lt_zero j), fun k b h => absurd (Hp.at_lt h) (Nat.not_lt_zero k), fun k b h => absurd (Hp.at_lt h) (Nat.not_lt_zero k), Kept.refl w M, fun k b h => absurd (Hp.at_lt h) (Nat.not_lt_zero k), ObjsOk.none fun k b h => absurd (Hp.at_lt h) (Nat.not_lt_zero k)⟩
theorem sums_none (P : Program) (ρ : Env) (w0 : World) (M : Nat -> Prop) : SumsOk P ρ w0 M (fun _ _ => none) := fun _ _ _ h => by cases h
abbrev Tabs := List (Nat × List Value)
def tabBox : Tabs -> Nat -> Box
 | [], _ => ⟨false, .gone⟩
 | p :: l, k => match k with
  | 0 => ⟨false, .ro (p.2.map ofLeaf)⟩
  | k + 1 => tabBox l k
def tabHp (l : Tabs) : Hp := ⟨l.length, tabBox l⟩
def tabGl : Tabs -> Nat -> Gl
 | [], _ => []
 | p :: l, k => (p.1, k) :: tabGl l (k + 1)
def tabB (l : Tabs) : Bm := fun k => ((l.map (·.1)).getD k 0, 0)
def TabsIn (l : Tabs) (w : World) : Prop := ∀ p ∈ l, ∀ (i : Nat) (v : Value), p.2[i]? = some v -> w.cell? ⟨p.1, i, none⟩ = some v
theorem tabBox_get : ∀ {l : Tabs} {k : Nat}, k < l.length -> ∃ p, l[k]? = some p /\ tabBox l k = ⟨false, .ro (p.2.map ofLeaf)⟩
 | [], k, h => by simp at h
 | p :: l, 0, h => ⟨p, rfl, rfl⟩
 | p :: l, k + 1, h => by
  obtain ⟨q, h1, h2⟩ := tabBox_get (l := l) (k := k) (by simpa using h)
  exact ⟨q, by simpa using h1, h2⟩
theorem tab_heap {l : Tabs} (hd : (l.map (·.1)).Nodup) {w : World} (h : TabsIn l w) (M : Nat -> Prop) (ρ : Env) : Heap ρ w M (tabB l) (tabHp l) w := by
 have key : ∀ (k : Nat) (b : Box), (tabHp l).at k = some b -> ∃ p, l[k]? = some p /\ b = ⟨false, .ro (p.2.map ofLeaf)⟩ /\ (tabB l k).1 = p.1 := fun k b hb => by
  obtain ⟨hlt, rfl⟩ := Hp.at_some.1 hb; obtain ⟨p, h1, h2⟩ := tabBox_get hlt; exact ⟨p, h1, h2, by simp [tabB, h1]⟩
 have hev : ∀ (β : Bm) (vs : List Value), SV.evs ρ β (vs.map ofLeaf) = vs := fun β vs => by
  rw [SV.evs_map, List.map_map]; have : (SV.ev ρ β ∘ ofLeaf) = id := funext fun v => ofLeaf_ev ρ β v
  rw [this, List.map_id]
 refine ⟨fun k b hb => ?_, fun j k b b' hj hk _ _ he => ?_, fun k b hb hr => ?_, fun k b hb => ?_, Kept.refl w M, fun k b hb ha => ?_, ObjsOk.none fun k b hb => by obtain ⟨p, _, rfl, _⟩ := key k b hb; rfl⟩
 ·obtain ⟨p, h1, rfl, h3⟩ := key k b hb
  refine ⟨fun i v hv => ?_, fun _ => Nat.zero_le _⟩
  rw [hev] at hv; rw [h3]; exact h p (List.mem_of_getElem? h1) i v hv
 ·obtain ⟨p, h1, _, h3⟩ := key j b hj
  obtain ⟨q, g1, _, g3⟩ := key k b' hk; have hpq : p.1 = q.1 := by rw [<- h3, <- g3, he]
  have hjl : j < (l.map (·.1)).length := by simpa using (lSo.1 h1).1
  have hkl : k < (l.map (·.1)).length := by simpa using (lSo.1 g1).1
  refine (List.getElem_inj (h₀ := hjl) (h₁ := hkl) hd).1 ?_; have e1 : (l.map (·.1))[j]? = some p.1 := by rw [lMp, h1]; rfl
  have e2 : (l.map (·.1))[k]? = some q.1 := by rw [lMp, g1]; rfl
  rw [lGe hjl] at e1; rw [lGe hkl] at e2; exact (sinj e1).trans (hpq.trans (sinj e2).symm)
 ·obtain ⟨p, _, rfl, _⟩ := key k b hb
  cases hr
 ·obtain ⟨p, _, rfl, _⟩ := key k b hb
  show SV.oks ρ _ (p.2.map ofLeaf); rw [SV.oks_mem]; intro s hs; obtain ⟨v, _, rfl⟩ := List.mem_map.1 hs; exact ofLeaf_ok ρ _ v
 ·obtain ⟨p, _, rfl, _⟩ := key k b hb
  cases ha
theorem tab_gl : ∀ {l : Tabs} {k : Nat} {β : Bm} {n : Nat}, (∀ j p, l[j]? = some p -> (β (k + j)).1 = p.1) -> k + l.length <= n -> ∀ p ∈ tabGl l k, (β p.2).1 = p.1 /\ p.2 < n
 | [], _, _, _, _, _, p, h => by cases h
 | q :: l, k, β, n, hb, hn, p, h => by
  rcases mCo.1 h with rfl | h
  ·have := hb 0 q rfl
   simp only [List.length_cons] at hn; exact ⟨by simpa using this, by simp only; omega⟩
  ·refine tab_gl (l := l) (k := k + 1) (fun j p hj => ?_) (by simp at hn; omega) p h
   have := hb (j + 1) p (by simpa using hj)
   rwa [show k + 1 + j = k + (j + 1) by omega]
theorem calls_tab {okF : FuncId -> Bool} {sums : Sums} {keep : FuncId -> Nat -> List Nat} {fuel n : Nat} (tabs : Tabs) (hd : (tabs.map (·.1)).Nodup) (ht : TabsIn tabs w) (hm : P.follows .mixedOrders = true) (hok : ∀ f, okF f = true -> ∀ as w, (callFunc f as).run P w = .ok (.enter f as) w)
  {f : FuncId} {args : List SV} (hsum : SumsOk P ρ w (fun _ => False) sums) (hargs : SV.oks ρ 0 args) (hfl : SV.flats args = true) {R : Value -> Prop} (h : (callF P (tabGl tabs 0) okF sums keep fuel n f args (tabHp tabs) []).holds ρ fun o => o.v.flat = true /\ R (o.v.ev ρ β0)) :
  Calls P f (SV.evs ρ β0 args).toArray w fun e w' => ∃ v, e = .returned v /\ R v /\ Below w.heap.size w w' := by
 rw [SV.evs_flat β0 (tabB tabs) args hfl]
 exact (callF_run (gl := tabGl tabs 0) hm hok hsum n f args (tabHp tabs) [] (tabB tabs) w (fun v w' => R v /\ Below w.heap.size w w') (tab_heap hd ht _ ρ) (fun _ h => by cases h) (SV.oks_mono (Nat.zero_le _) _ hargs)
  (tab_gl (fun j p hj => by simp [tabB, hj]) (by simp [tabHp]))
  (T.holds_mono (fun o ho β' w' _ _ _ hh _ _ => ⟨by rw [SV.ev_flat β' β0 _ ho.1]; exact ho.2, hh.kept.to_below⟩) h)).2
theorem pays_tab {okF : FuncId -> Bool} {sums : Sums} {keep : FuncId -> Nat -> List Nat} {fuel n : Nat} (tabs : Tabs) (hd : (tabs.map (·.1)).Nodup) (ht : TabsIn tabs w) (hm : P.follows .mixedOrders = true) (hok : ∀ f, okF f = true -> ∀ as w, (callFunc f as).run P w = .ok (.enter f as) w)
  {f : FuncId} {args : List SV} (hsum : SumsOk P ρ w (fun _ => False) sums) (hargs : SV.oks ρ 0 args) (hfl : SV.flats args = true) (h : (callF P (tabGl tabs 0) okF sums keep fuel n f args (tabHp tabs) []).holds ρ fun o => isTrue o = true) :
  Calls P f (SV.evs ρ β0 args).toArray w fun e w' => e = .returned (.bool true) /\ Below w.heap.size w w' :=
 (calls_tab (R := fun v => v = .bool true) tabs hd ht hm hok hsum hargs hfl (T.holds_mono (fun o ho => by
  unfold isTrue at ho; split at ho
  ·rename_i n hv
   rw [hv]; have hn : n ≠ 0 := by simpa using ho
   exact ⟨rfl, by simp [SV.ev, E.ev, hn]⟩
  ·cases ho) h)).mono fun e w' ⟨v, he, hv, hb⟩ => ⟨by rw [he, hv], hb⟩
end
inductive Sh where
 | one (l : Lk) | agg (l : List Lk)
def Lk.take : Lk -> SV -> Option E
 | .int k, .int j e => if kTag k = kTag j then some e else none
 | .bool, .bool e => some e
 | _, _ => none
def takes : List Lk -> List SV -> Option (List E)
 | [], [] => some []
 | l :: ls, s :: ss => match l.take s, takes ls ss with
  | some e, some es => some (e :: es)
  | _, _ => none
 | _, _ => none
def Sh.take : Sh -> SV -> Option (List E)
 | .one l, s => (l.take s).map fun e => [e]
 | .agg ls, .agg ss => takes ls ss
 | _, _ => none
def shTakes : List Sh -> List SV -> Option (List E)
 | [], [] => some []
 | h :: hs, s :: ss => match h.take s, shTakes hs ss with
  | some e, some es => some (e ++ es)
  | _, _ => none
 | _, _ => none
def vals : List Lk -> List Int -> List Value
 | [], _ => []
 | l :: ls, ns => l.val (ns.headD 0) :: vals ls ns.tail
def fits : List Lk -> List Int -> Prop
 | [], _ => True
 | l :: ls, ns => l.fits (ns.headD 0) /\ fits ls ns.tail
def Sh.size : Sh -> Nat
 | .one _ => 1
 | .agg l => l.length
def Sh.val : Sh -> List Int -> Value
 | .one l, ns => l.val (ns.headD 0)
 | .agg ls, ns => .agg (vals ls ns).toArray
def Sh.fits : Sh -> List Int -> Prop
 | .one l, ns => l.fits (ns.headD 0)
 | .agg ls, ns => SX.fits ls ns
def shVals : List Sh -> List Int -> List Value
 | [], _ => []
 | h :: hs, ns => h.val ns :: shVals hs (ns.drop h.size)
def shFits : List Sh -> List Int -> Prop
 | [], _ => True
 | h :: hs, ns => h.fits ns /\ shFits hs (ns.drop h.size)
section
variable {ρ : Env} {β : Bm} {n : Nat}
theorem evs_len : ∀ l : List E, (E.evs ρ l).length = l.length
 | [] => rfl
 | e :: l => by simp [E.evs, evs_len l]
theorem evs_app : ∀ l m : List E, E.evs ρ (l ++ m) = E.evs ρ l ++ E.evs ρ m
 | [], m => rfl
 | e :: l, m => by simp [E.evs, evs_app l m]
theorem Lk.take_spec {l : Lk} {s : SV} {e : E} (hs : s.ok ρ n) (h : l.take s = some e) : s.ev ρ β = l.val (e.ev ρ) /\ l.fits (e.ev ρ) := by
 unfold Lk.take at h; split at h
 ·split at h
  ·rename_i hk
   obtain rfl := kTag_inj hk; obtain rfl := sinj h; exact ⟨rfl, hs⟩
  ·cases h
 ·obtain rfl := sinj h
  exact ⟨rfl, trivial⟩
 ·cases h
theorem takes_spec : ∀ {ls : List Lk} {ss : List SV} {es : List E} (ns : List Int), SV.oks ρ n ss -> takes ls ss = some es -> SV.evs ρ β ss = vals ls (E.evs ρ es ++ ns) /\ SX.fits ls (E.evs ρ es ++ ns) /\ es.length = ls.length
 | [], [], es, ns, _, h => by obtain rfl := sinj h; exact ⟨rfl, trivial, rfl⟩
 | [], _ :: _, es, ns, _, h => by cases h
 | _ :: _, [], es, ns, _, h => by cases h
 | l :: ls, s :: ss, es, ns, hs, h => by
  unfold takes at h; split at h
  ·rename_i e es' he hes
   obtain rfl := sinj h; obtain ⟨a1, a2⟩ := Lk.take_spec (β := β) hs.1 he; obtain ⟨b1, b2, b3⟩ := takes_spec ns hs.2 hes; exact ⟨by simp [SV.evs, vals, E.evs, a1, b1], ⟨a2, b2⟩, by simp [b3]⟩
  ·cases h
theorem Sh.take_spec {h : Sh} {s : SV} {es : List E} (ns : List Int) (hs : s.ok ρ n) (ht : h.take s = some es) : s.ev ρ β = h.val (E.evs ρ es ++ ns) /\ h.fits (E.evs ρ es ++ ns) /\ es.length = h.size := by
 unfold Sh.take at ht; split at ht
 ·rename_i l
  cases he : l.take s with
  | none => simp [he] at ht
  | some e =>
   simp only [he, Option.map_some, sEq] at ht; subst ht; obtain ⟨a1, a2⟩ := Lk.take_spec (β := β) hs he; exact ⟨a1, a2, rfl⟩
 ·rename_i ls ss
  obtain ⟨b1, b2, b3⟩ := takes_spec (β := β) ns hs ht; exact ⟨by simp only [SV.ev, Sh.val, b1], b2, b3⟩
 ·cases ht
theorem shTakes_spec : ∀ {hs : List Sh} {ss : List SV} {es : List E}, SV.oks ρ n ss -> shTakes hs ss = some es -> SV.evs ρ β ss = shVals hs (E.evs ρ es) /\ shFits hs (E.evs ρ es)
 | [], [], es, _, h => ⟨rfl, trivial⟩
 | [], _ :: _, es, _, h => by cases h
 | _ :: _, [], es, _, h => by cases h
 | h :: hs, s :: ss, es, hk, ht => by
  unfold shTakes at ht; split at ht
  ·rename_i e es' he hes
   obtain rfl := sinj ht; obtain ⟨a1, a2, a3⟩ := Sh.take_spec (β := β) (E.evs ρ es') hk.1 he; obtain ⟨b1, b2⟩ := shTakes_spec hk.2 hes; have hd : (E.evs ρ (e ++ es')).drop h.size = E.evs ρ es' := by rw [evs_app, <- a3, <- evs_len (ρ := ρ) e, List.drop_left]
   refine ⟨?_, ?_⟩
   ·simp only [SV.evs, shVals]
    rw [hd, b1, a1, evs_app]
   ·simp only [shFits, hd]
    exact ⟨by rw [evs_app]; exact a2, b2⟩
  ·cases ht
end
def Lk.app (l : Lk) (f j : Nat) (es : List E) : SV :=
 match l with
 | .int k => .int k (.app f j es)
 | .bool => .bool (.app f j es)
def apps (f : Nat) (es : List E) : List Lk -> Nat -> List SV
 | [], _ => []
 | l :: ls, j => l.app f j es :: apps f es ls (j + 1)
def Sh.app (f : Nat) (es : List E) (h : Sh) (j : Nat) : SV :=
 match h with
 | .one l => l.app f j es
 | .agg ls => .agg (apps f es ls j)
def shApps (f : Nat) (es : List E) : List Sh -> Nat -> List SV
 | [], _ => []
 | h :: hs, j => h.app f es j :: shApps f es hs (j + h.size)
structure Sm where
 f : FuncId
 name : Nat
 ps : List Sh
 rs : List Sh
def allLit : List E -> Bool
 | [] => true
 | .lit _ :: l => allLit l
 | _ => false
def sumsOf (l : List Sm) : Sums := fun f args =>
 match l with
 | [] => none
 | s :: l => if s.f = f then (shTakes s.ps args).bind fun es => if allLit es then none else some (packS (shApps s.name es s.rs 0)) else sumsOf l f args
def fnVals (F : Nat -> List Int -> Int) (ns : List Int) (m j : Nat) : List Int := (List.range' j m).map fun i => F i ns
def shSize (l : List Sh) : Nat := (l.map Sh.size).foldr (· + ·) 0
def packV : List Value -> Value
 | [v] => v
 | vs => .tuple vs.toArray
def SmOk (P : Program) (ρ : Env) (w0 : World) (M : Nat -> Prop) (s : Sm) : Prop := ∀ ns : List Int, shFits s.ps ns ->
 shFits s.rs (fnVals (ρ.fn s.name) ns (shSize s.rs) 0) /\ ∀ w, Kept w0 M w -> Calls P s.f (shVals s.ps ns).toArray w fun e w' => e = .returned (packV (shVals s.rs (fnVals (ρ.fn s.name) ns (shSize s.rs) 0))) /\ Below w.heap.size w w'
section
variable {ρ : Env} {β : Bm} {n : Nat}
theorem Lk.app_spec (l : Lk) (f j : Nat) (es : List E) (hf : l.fits (ρ.fn f j (E.evs ρ es))) : (l.app f j es).ev ρ β = l.val (ρ.fn f j (E.evs ρ es)) /\ (l.app f j es).ok ρ n := by
 cases l
 ·exact ⟨rfl, hf⟩
 ·exact ⟨rfl, trivial⟩
theorem apps_spec (f : Nat) (es : List E) : ∀ (ls : List Lk) (j m : Nat), ls.length <= m -> SX.fits ls (fnVals (ρ.fn f) (E.evs ρ es) m j) -> SV.evs ρ β (apps f es ls j) = vals ls (fnVals (ρ.fn f) (E.evs ρ es) m j) /\ SV.oks ρ n (apps f es ls j)
 | [], j, m, _, _ => ⟨rfl, trivial⟩
 | l :: ls, j, 0, h, _ => by simp at h
 | l :: ls, j, m + 1, h, hf => by
  have hfv : fnVals (ρ.fn f) (E.evs ρ es) (m + 1) j = ρ.fn f j (E.evs ρ es) :: fnVals (ρ.fn f) (E.evs ρ es) m (j + 1) := by simp [fnVals, List.range'_succ]
  rw [hfv] at hf ⊢; obtain ⟨a1, a2⟩ := Lk.app_spec (β := β) (n := n) l f j es hf.1; obtain ⟨b1, b2⟩ := apps_spec f es ls (j + 1) m (by simpa using h) hf.2
  exact ⟨by simp only [apps, SV.evs, vals, a1, b1, List.headD_cons, List.tail_cons], a2, b2⟩
theorem fnVals_drop (F : Nat -> List Int -> Int) (ns : List Int) (m j k : Nat) : (fnVals F ns m j).drop k = fnVals F ns (m - k) (j + k) := by
 unfold fnVals; apply List.ext_getElem?; intro i; simp only [List.getElem?_drop, lMp]; congr 1
 by_cases h : k + i < m
 ·rw [List.getElem?_range' (by omega), List.getElem?_range' (by omega)]; simp; omega
 ·rw [lNo (by simp; omega), lNo (by simp; omega)]
theorem shApps_spec (f : Nat) (es : List E) : ∀ (hs : List Sh) (j m : Nat), shSize hs <= m -> shFits hs (fnVals (ρ.fn f) (E.evs ρ es) m j) -> SV.evs ρ β (shApps f es hs j) = shVals hs (fnVals (ρ.fn f) (E.evs ρ es) m j) /\ SV.oks ρ n (shApps f es hs j)
 | [], j, m, _, _ => ⟨rfl, trivial⟩
 | h :: hs, j, m, hm, hf => by
  simp only [shSize, List.map_cons, List.foldr_cons] at hm; have hd := fnVals_drop (ρ.fn f) (E.evs ρ es) m j h.size; simp only [shFits, hd] at hf; obtain ⟨b1, b2⟩ := shApps_spec f es hs (j + h.size) (m - h.size) (by unfold shSize; omega) hf.2
  have key : (h.app f es j).ev ρ β = h.val (fnVals (ρ.fn f) (E.evs ρ es) m j) /\ (h.app f es j).ok ρ n := by
   cases h with
   | one l =>
    simp only [Sh.size] at hm; obtain ⟨m', rfl⟩ : ∃ m', m = m' + 1 := ⟨m - 1, by omega⟩
    have hfv : fnVals (ρ.fn f) (E.evs ρ es) (m' + 1) j = ρ.fn f j (E.evs ρ es) :: fnVals (ρ.fn f) (E.evs ρ es) m' (j + 1) := by simp [fnVals, List.range'_succ]
    have h1 := hf.1; simp only [Sh.fits, hfv, List.headD_cons] at h1
    simpa only [Sh.app, Sh.val, hfv, List.headD_cons] using Lk.app_spec (β := β) (n := n) l f j es h1
   | agg ls =>
    simp only [Sh.size] at hm; obtain ⟨a1, a2⟩ := apps_spec (β := β) (n := n) f es ls j m (by omega) hf.1
    exact ⟨by simp only [Sh.app, SV.ev, Sh.val, a1], a2⟩
  refine ⟨?_, key.2, b2⟩; simp only [shApps, SV.evs, shVals, hd, key.1, b1]
theorem packS_spec (l : List SV) (h : SV.oks ρ n l) : (packS l).ev ρ β = packV (SV.evs ρ β l) /\ (packS l).ok ρ n := by
 match l, h with
 | [], _ => exact ⟨rfl, trivial⟩
 | [v], h => exact ⟨rfl, h.1⟩
 | u :: v :: l, h => exact ⟨rfl, h⟩
theorem sumsOf_ok {P : Program} {ρ : Env} {w0 : World} {M : Nat -> Prop} : ∀ {l : List Sm}, (∀ s ∈ l, SmOk P ρ w0 M s) -> SumsOk P ρ w0 M (sumsOf l)
 | [], _ => fun f args v h => by cases h
 | s :: l, hl => fun f args v h n β ha => by
  unfold sumsOf at h; split at h
  ·rename_i hf
   subst hf; cases ht : shTakes s.ps args with
   | none => simp [ht] at h
   | some es =>
    simp only [ht, Option.bind_some] at h; split at h
    ·cases h
    obtain rfl := sinj h; obtain ⟨a1, a2⟩ := shTakes_spec (β := β) ha ht; obtain ⟨f1, f2⟩ := hl s (lHd ..) _ a2; obtain ⟨b1, b2⟩ := shApps_spec (β := β) (n := n) s.name es s.rs 0 _ (Nat.le_refl _) f1; obtain ⟨c1, c2⟩ := packS_spec (β := β) _ b2; refine ⟨c2, fun w hw => ?_⟩
    rw [a1, c1, b1]; exact f2 w hw
  ·exact sumsOf_ok (fun s hs => hl s (lTl _ hs)) f args v h n β ha
end
def sumsA (aw : FuncId) (l : List Sm) : Sums := fun f args =>
 if f = aw then (match args with
  | [] => some (.bool (.lit 1))
  | _ => none) else sumsOf l f args
theorem sumsA_ok {P : Program} {ρ : Env} {w0 : World} {M : Nat -> Prop} {aw : FuncId} {l : List Sm} (ha : ∀ w, Kept w0 M w -> Calls P aw #[] w fun e w' => e = .returned (.bool true) /\ Below w.heap.size w w') (hl : ∀ s ∈ l, SmOk P ρ w0 M s) : SumsOk P ρ w0 M (sumsA aw l) :=
 fun f args v h n β hargs => by
  unfold sumsA at h; split at h
  ·rename_i hf
   subst hf; split at h
   ·obtain rfl := sinj h
    refine ⟨trivial, fun w hw => ?_⟩
    simpa [SV.ev, E.ev, SV.evs] using ha w hw
   ·cases h
  ·exact sumsOf_ok hl f args v h n β hargs
def varLk (l : Lk) (i : Nat) : SV :=
 match l with
 | .int k => .int k (.var i)
 | .bool => .bool (.var i)
def varLks : List Lk -> Nat -> List SV
 | [], _ => []
 | l :: ls, i => varLk l i :: varLks ls (i + 1)
def varSh (h : Sh) (i : Nat) : SV :=
 match h with
 | .one l => varLk l i
 | .agg ls => .agg (varLks ls i)
def varShs : List Sh -> Nat -> List SV
 | [], _ => []
 | h :: hs, i => varSh h i :: varShs hs (i + h.size)
def envOf (F : Mng) (ns : List Int) : Env := ⟨fun i => ns.getD i 0, fun _ _ _ => 0, F⟩
section
variable {F : Mng} {ns : List Int} {β : Bm} {n : Nat}
theorem headD_drop (ns : List Int) (i : Nat) : (ns.drop i).headD 0 = ns.getD i 0 := by
 simp [List.head?_drop]
theorem varLk_spec {l : Lk} {i : Nat} (h : l.fits (ns.getD i 0)) : (varLk l i).ev (envOf F ns) β = l.val (ns.getD i 0) /\ (varLk l i).ok (envOf F ns) n /\ (varLk l i).flat = true := by
 cases l
 ·exact ⟨rfl, h, rfl⟩
 ·exact ⟨rfl, trivial, rfl⟩
theorem varLks_spec : ∀ {ls : List Lk} {i : Nat}, SX.fits ls (ns.drop i) -> SV.evs (envOf F ns) β (varLks ls i) = vals ls (ns.drop i) /\ SV.oks (envOf F ns) n (varLks ls i) /\ SV.flats (varLks ls i) = true
 | [], _, _ => ⟨rfl, trivial, rfl⟩
 | l :: ls, i, h => by
  simp only [SX.fits, headD_drop, List.tail_drop] at h; obtain ⟨a1, a2, a3⟩ := varLk_spec (F := F) (β := β) (n := n) h.1; obtain ⟨b1, b2, b3⟩ := varLks_spec (ls := ls) (i := i + 1) h.2; refine ⟨?_, ⟨a2, b2⟩, by simp [varLks, SV.flats, a3, b3]⟩
  simp only [varLks, SV.evs, vals, a1, b1, headD_drop, List.tail_drop]
theorem varShs_spec : ∀ {hs : List Sh} {i : Nat}, shFits hs (ns.drop i) -> SV.evs (envOf F ns) β (varShs hs i) = shVals hs (ns.drop i) /\ SV.oks (envOf F ns) n (varShs hs i) /\ SV.flats (varShs hs i) = true
 | [], _, _ => ⟨rfl, trivial, rfl⟩
 | h :: hs, i, hf => by
  simp only [shFits, List.drop_drop] at hf; obtain ⟨b1, b2, b3⟩ := varShs_spec (hs := hs) (i := i + h.size) hf.2
  have key : (varSh h i).ev (envOf F ns) β = h.val (ns.drop i) /\ (varSh h i).ok (envOf F ns) n /\ (varSh h i).flat = true := by
   cases h with
   | one l =>
    have h1 := hf.1; simp only [Sh.fits, headD_drop] at h1
    simpa only [varSh, Sh.val, headD_drop] using varLk_spec (F := F) (β := β) (n := n) h1
   | agg ls =>
    obtain ⟨a1, a2, a3⟩ := varLks_spec (F := F) (β := β) (n := n) (i := i) hf.1; exact ⟨by simp only [varSh, SV.ev, Sh.val, a1], a2, a3⟩
  refine ⟨?_, ⟨key.2.1, b2⟩, by simp [varShs, SV.flats, key.2.2, b3]⟩
  simp only [varShs, SV.evs, shVals, key.1, b1, List.drop_drop]
end
theorem smOk_of {P : Program} {F : Mng} {w0 : World} {M : Nat -> Prop} {s : Sm} {okF : FuncId -> Bool} {sums : Sums} {keep : FuncId -> Nat -> List Nat} {fuel n : Nat} (tabs : Tabs) (hd : (tabs.map (·.1)).Nodup) (ht : ∀ w, Kept w0 M w -> TabsIn tabs w)
  (hm : P.follows .mixedOrders = true) (hok : ∀ f, okF f = true -> ∀ as w, (callFunc f as).run P w = .ok (.enter f as) w)
  (hsum : ∀ (ns : List Int) (w : World), Kept w0 M w -> SumsOk P (envOf F ns) w (fun _ => False) sums) (v : List Int)
  (h : ∀ ns : List Int, shFits s.ps ns -> shFits s.rs (fnVals (F s.name) ns (shSize s.rs) 0) /\
   (callF P (tabGl tabs 0) okF sums keep fuel n s.f (varShs s.ps 0) (tabHp tabs) []).holds (envOf F ns) fun o => o.v.flat = true /\ o.v.ev (envOf F ns) β0 = packV (shVals s.rs (fnVals (F s.name) ns (shSize s.rs) 0))) :
  SmOk P (envOf F v) w0 M s := fun ns hns => by
 obtain ⟨h1, h2⟩ := h ns hns; refine ⟨h1, fun w hw => ?_⟩
 obtain ⟨e1, e2, e3⟩ := varShs_spec (F := F) (β := β0) (n := 0) (hs := s.ps) (i := 0) hns; have := calls_tab (R := fun x => x = packV (shVals s.rs (fnVals (F s.name) ns (shSize s.rs) 0))) tabs hd (ht w hw) hm hok (hsum ns w hw) e2 e3 h2
 rw [e1, List.drop_zero] at this; exact this.mono fun e w' ⟨x, he, hx, hb⟩ => ⟨by rw [he, hx]; rfl, hb⟩
theorem TabsIn.kept {l : Tabs} {w0 w : World} (h : TabsIn l w0) (hk : Kept w0 (fun _ => False) w) : TabsIn l w := fun p hp i v hv => by
 have h1 := h p hp i v hv; have hlt := block_lt_of_cell h1; have := hk.block _ hlt (fun e => e)
 unfold World.cell? at h1 ⊢; rw [this]; exact h1
theorem tabs_nil (w : World) : TabsIn [] w := fun p h => by cases h
theorem T.holds_map {α γ : Type} {ρ : Env} {f : α -> γ} {Q : γ -> Prop} {t : T α} : (t.map f).holds ρ Q ↔ t.holds ρ fun a => Q (f a) := by
 unfold T.map; rw [T.holds_bind]; exact Iff.rfl
end SX
namespace SX
open Go Go.ChangeShapes Go.WideShapes Go.ChangeAt Go.RowKit Go.Deep
def lkOf (P : Program) (t : TypeId) : Option Lk :=
 match P.underlying t with
 | some .bool => some .bool
 | some (.int k) => some (.int k)
 | _ => none
def lksOf (P : Program) : List TypeId -> Option (List Lk)
 | [] => some []
 | t :: ts => match lkOf P t, lksOf P ts with
  | some l, some ls => some (l :: ls)
  | _, _ => none
def shOf (P : Program) (t : TypeId) : Option Sh :=
 match P.underlying t with
 | some (.struct _) => match flatTs P 6 t with
  | some ts => (lksOf P ts).map .agg
  | none => none
 | _ => (lkOf P t).map .one
section
variable {P : Program} {W : World} {base : Nat} {H : Type} {enc : TypeId × Value -> H}
theorem leaf_lk {t : TypeId} {v : Value} {l : Lk} (hl : lkOf P t = some l) (h : Leaf P t v) : ∃ n, v = l.val n /\ l.fits n := by
 unfold lkOf at hl; split at hl
 ·rename_i hu
  obtain rfl := sinj hl; obtain ⟨b, rfl⟩ := h.bool hu; exact ⟨if b then 1 else 0, (by cases b <;> simp [Lk.val]), trivial⟩
 ·rename_i k hu
  obtain rfl := sinj hl; obtain ⟨n, rfl, hw⟩ := h.int hu; exact ⟨n, rfl, hw⟩
 ·cases hl
theorem vals_append : ∀ {ls : List Lk} {ns ms : List Int}, ns.length = ls.length -> vals ls (ns ++ ms) = vals ls ns /\ (SX.fits ls (ns ++ ms) ↔ SX.fits ls ns)
 | [], ns, ms, h => ⟨rfl, Iff.rfl⟩
 | l :: ls, [], ms, h => by simp at h
 | l :: ls, n :: ns, ms, h => by
  obtain ⟨a, b⟩ := vals_append (ls := ls) (ns := ns) (ms := ms) (by simpa using h)
  simp only [List.cons_append, vals, SX.fits, List.headD_cons, List.tail_cons, a, b]; exact ⟨trivial, trivial⟩
theorem all2_lks : ∀ {ts : List TypeId} {ls : List Lk} {cs : List Value}, lksOf P ts = some ls -> All2 (Leaf P) ts cs -> ∃ ns : List Int, ns.length = ls.length /\ cs = vals ls ns /\ SX.fits ls ns
 | [], ls, cs, hl, h => by
  obtain rfl := sinj hl; cases h; exact ⟨[], rfl, rfl, trivial⟩
 | t :: ts, ls, cs, hl, h => by
  unfold lksOf at hl; split at hl
  ·rename_i l ls' h1 h2
   obtain rfl := sinj hl; cases h with
   | cons hv hr =>
    obtain ⟨n, rfl, hf⟩ := leaf_lk h1 hv; obtain ⟨ns, h3, rfl, h5⟩ := all2_lks h2 hr; exact ⟨n :: ns, by simp [h3], rfl, hf, h5⟩
  ·cases hl
theorem open_sh {t : TypeId} {h : Sh} {v : Value} {d : DataW H} {p : List MemPlace} (hs : shOf P t = some h) (hv : Value.okWide P W .any base t v) (ht : DataW.Trod enc P W 0 (fun _ => true) true t v d p) :
  ∃ ns : List Int, ns.length = h.size /\ v = h.val ns /\ h.fits ns := by
 unfold shOf at hs; split at hs
 ·rename_i fs hu
  split at hs
  ·rename_i ts hf
   cases hl : lksOf P ts with
   | none => simp [hl] at hs
   | some ls =>
    simp only [hl, Option.map_some, sEq] at hs; subst hs; obtain ⟨cs, rfl, hall⟩ := open_flat hu hf hv ht; obtain ⟨ns, h1, rfl, h3⟩ := all2_lks hl hall; exact ⟨ns, h1, rfl, h3⟩
  ·cases hs
 ·rename_i hne
  cases hl : lkOf P t with
  | none => simp [hl] at hs
  | some l =>
   simp only [hl, Option.map_some, sEq] at hs; subst hs; unfold lkOf at hl; split at hl
   ·rename_i hu
    obtain rfl := sinj hl; obtain ⟨b, rfl, _, _⟩ := open_bool hu hv ht; exact ⟨[if b then 1 else 0], rfl, (by cases b <;> simp [Sh.val, Lk.val]), trivial⟩
   ·rename_i k hu
    obtain rfl := sinj hl; obtain ⟨n, rfl, _, _, hw⟩ := open_int hu hv ht; exact ⟨[n], rfl, rfl, hw⟩
   ·cases hl
theorem Sh.val_append {h : Sh} {ns ms : List Int} (hl : ns.length = h.size) : h.val (ns ++ ms) = h.val ns /\ (h.fits (ns ++ ms) ↔ h.fits ns) := by
 cases h with
 | one l =>
  match ns, hl with
  | [n], _ => exact ⟨rfl, Iff.rfl⟩
 | agg ls =>
  obtain ⟨a, b⟩ := vals_append (ls := ls) (ms := ms) hl; exact ⟨by simp only [Sh.val, a], b⟩
end
end SX
namespace SX
open Go Go.RowKit
def absurdF (fs : Fs) : Fs -> Bool
 | [] => false
 | (c, b) :: l => (match canon fs c with
  | .lit n => (n != 0) != b
  | _ => false) || absurdF fs l
theorem absurdF_spec {ρ : Env} {fs : Fs} (hf : FsOk ρ fs) : ∀ {l : Fs}, FsOk ρ l -> absurdF fs l = true -> False
 | [], _, h => by cases h
 | (c, b) :: l, hl, h => by
  simp only [absurdF, bOr] at h; rcases h with h | h
  ·split at h
   ·rename_i n hn
    have h1 := canon_ev (ρ := ρ) (fs := fs) hf c; have h2 := hl (c, b) (lHd ..); simp only at h2; rw [<- h1, hn] at h2; simp only [E.ev] at h2; cases b <;> by_cases h0 : n = 0 <;> simp_all
   ·cases h
  ·exact absurdF_spec hf (fun p hp => hl p (lTl _ hp)) h
def isTrueF (o : Out) : Bool :=
 (match o.v with
 | .bool e => match decideE o.fs e with
  | some b => b
  | none => false
 | _ => false) || absurdF o.fs o.fs
theorem isTrueF_spec {ρ : Env} {o : Out} (hf : FsOk ρ o.fs) (h : isTrueF o = true) (β : Bm) : o.v.ev ρ β = .bool true := by
 simp only [isTrueF, bOr] at h; rcases h with ho | ho
 ·split at ho
  ·rename_i e hv
   split at ho
   ·rename_i b hb
    subst ho; have := decideE_spec hf hb; rw [hv]; simp only [SV.ev, this]
   ·cases ho
  ·cases ho
 ·exact (absurdF_spec hf hf ho).elim
def lkFacts : Lk -> Nat -> Fs
 | .int k, i => [(.bin .zrng k (.var i) (.lit 0), true)]
 | .bool, _ => []
def lksFacts : List Lk -> Nat -> Fs
 | [], _ => []
 | l :: ls, i => lkFacts l i ++ lksFacts ls (i + 1)
def shFacts : Sh -> Nat -> Fs
 | .one l, i => lkFacts l i
 | .agg ls, i => lksFacts ls i
def varFacts : List Sh -> Nat -> Fs
 | [], _ => []
 | h :: hs, i => shFacts h i ++ varFacts hs (i + h.size)
section
variable {F : Mng} {ns : List Int}
theorem lkFacts_ok {l : Lk} {i : Nat} (h : l.fits (ns.getD i 0)) : FsOk (envOf F ns) (lkFacts l i) := by
 intro p hp; cases l with
 | bool => cases hp
 | int k =>
  obtain rfl : p = (.bin .zrng k (.var i) (.lit 0), true) := by simpa [lkFacts] using hp
  have := (wf_iff k _).1 h; show (if k.min <= ns.getD i 0 /\ ns.getD i 0 <= k.max then (1 : Int) else 0) ≠ 0 ↔ true = true
  rw [if_pos this]; simp
theorem fsOk_app {ρ : Env} {a b : Fs} (ha : FsOk ρ a) (hb : FsOk ρ b) : FsOk ρ (a ++ b) := fun p hp => (List.mem_append.1 hp).elim (ha p) (hb p)
theorem lksFacts_ok : ∀ {ls : List Lk} {i : Nat}, SX.fits ls (ns.drop i) -> FsOk (envOf F ns) (lksFacts ls i)
 | [], _, _ => fun p hp => by cases hp
 | l :: ls, i, h => by
  simp only [SX.fits, headD_drop, List.tail_drop] at h; exact fsOk_app (lkFacts_ok h.1) (lksFacts_ok h.2)
theorem varFacts_ok : ∀ {hs : List Sh} {i : Nat}, shFits hs (ns.drop i) -> FsOk (envOf F ns) (varFacts hs i)
 | [], _, _ => fun p hp => by cases hp
 | h :: hs, i, hf => by
  simp only [shFits, List.drop_drop] at hf; refine fsOk_app ?_ (varFacts_ok hf.2); cases h with
  | one l =>
   have h1 := hf.1; simp only [Sh.fits, headD_drop] at h1; exact lkFacts_ok h1
  | agg ls => exact lksFacts_ok hf.1
end
section
variable {P : Program} {ρ : Env} {w : World}
end
end SX
namespace SX
open Go Go.ChangeShapes Go.WideShapes Go.ChangeAt Go.RowKit Go.Deep
inductive Ph where
 | sh (h : Sh) | sl (ks : List Lk)
def phOf (P : Program) (t : TypeId) : Option Ph :=
 match P.underlying t with
 | some (.slice e) => match flatTs P 6 e with
  | some ts => match lksOf P ts with
   | some ks => if P.cellsOf e = ts.length /\ 0 < ts.length then some (.sl ks) else none
   | none => none
  | none => none
 | _ => (shOf P t).map .sh
def phsOf (P : Program) : List TypeId -> Option (List Ph)
 | [] => some []
 | t :: ts => match phOf P t, phsOf P ts with
  | some h, some hs => some (h :: hs)
  | _, _ => none
def phVals : List Ph -> List Int -> List Value -> List Value
 | [], _, _ => []
 | .sh h :: l, ns, ss => h.val ns :: phVals l (ns.drop h.size) ss
 | .sl _ :: l, ns, ss => ss.headD undef :: phVals l ns ss.tail
def phFits : List Ph -> List Int -> Prop
 | [], _ => True
 | .sh h :: l, ns => h.fits ns /\ phFits l (ns.drop h.size)
 | .sl _ :: l, ns => phFits l ns
def phSize : List Ph -> Nat
 | [] => 0
 | .sh h :: l => h.size + phSize l
 | .sl _ :: l => phSize l
def InSl (w : World) (ks : List Lk) (S : Value) : Prop := S = .slice none 0 0 \/
 ∃ (b off len cap : Nat) (c : Nat -> Nat -> Int), S = .slice (some ⟨b, off, none⟩) len cap /\ len <= cap /\ cap <= maxLen /\ (0 < len -> b < w.heap.size) /\
  ∀ (i f : Nat) (l : Lk), ks[f]? = some l -> l.fits (c f i) /\ (i < len -> w.cell? ⟨b, off + (i * ks.length + f), none⟩ = some (l.val (c f i)))
def slFits (w : World) : List Ph -> List Value -> Prop
 | [], _ => True
 | .sh _ :: l, ss => slFits w l ss
 | .sl ks :: l, ss => InSl w ks (ss.headD undef) /\ slFits w l ss.tail
theorem vals_get : ∀ {ls : List Lk} {ns : List Int} (f : Nat), (vals ls ns)[f]? = (ls[f]?).map fun l => l.val (ns.getD f 0)
 | [], ns, f => by simp [vals]
 | l :: ls, ns, 0 => by cases ns <;> simp [vals]
 | l :: ls, ns, f + 1 => by
  simp only [vals, List.getElem?_cons_succ]; rw [vals_get f]; cases ns <;> simp
theorem fits_get : ∀ {ls : List Lk} {ns : List Int} (f : Nat) (l : Lk), SX.fits ls ns -> ls[f]? = some l -> l.fits (ns.getD f 0)
 | [], ns, f, l, _, h => by simp at h
 | l :: ls, ns, 0, l', h, hl => by
  obtain rfl := sinj hl; have := h.1; cases ns <;> simpa using this
 | l :: ls, ns, f + 1, l', h, hl => by
  have := fits_get f l' h.2 (by simpa using hl)
  cases ns <;> simpa using this
theorem fits_zero (l : Lk) : l.fits 0 := by
 cases l with
 | int k => show (Lit.int k 0).wf = true; cases k <;> decide
 | bool => trivial
section
variable {P : Program} {W : World} {base : Nat} {H : Type} {enc : TypeId × Value -> H}
theorem open_sl {t : TypeId} {ks : List Lk} {v : Value} {d : DataW H} {p : List MemPlace} (hs : phOf P t = some (.sl ks)) (hv : Value.okWide P W .any base t v) (ht : DataW.Trod enc P W 0 (fun _ => true) true t v d p) : InSl W ks v := by
 unfold phOf at hs; split at hs
 ·rename_i e hu
  split at hs
  ·rename_i ts hf
   split at hs
   ·rename_i ks' hl
    split at hs
    ·rename_i hc
     simp only [sEq, Ph.sl.injEq] at hs; subst hs; obtain ⟨A, len, cap, xs, rfl, hlen, hcap, hmax, hnil, hsl, hall⟩ := open_slice_flat hu hf hc.1 hc.2 hv ht
     have hkl : ks'.length = ts.length := by
      have : ∀ (ts : List TypeId) (ls : List Lk), lksOf P ts = some ls -> ls.length = ts.length := by
       intro ts
       induction ts with
       | nil => intro ls h; obtain rfl := sinj h; rfl
       | cons t ts ih =>
        intro ls h; unfold lksOf at h; split at h
        ·rename_i l ls' h1 h2
         obtain rfl := sinj h; simp [ih _ h2]
        ·cases h
      exact this ts ks' hl
     obtain ⟨L, rfl, hok⟩ := all_map (f := vals ks') (Q := fun ns => SX.fits ks' ns) xs (fun x hx => by
      obtain ⟨ns, _, h2, h3⟩ := all2_lks hl (hall x hx); exact ⟨ns, h2, h3⟩)
     cases A with
     | none =>
      have h0 := hnil rfl; subst h0; obtain rfl : len = 0 := by omega
      exact .inl rfl
     | some a =>
      have hspot : a.spot = none := by
       unfold Value.okWide at hv; rw [hu] at hv; simp only [Cell.okWide, hu, Cell.ok] at hv; exact hv.2.2.2.1
      obtain ⟨b, off, s⟩ := a; simp only at hspot; subst hspot; refine .inr ⟨b, off, len, cap, fun f i => (L.getD i []).getD f 0, rfl, hcap, hmax, fun h0 => ?_, fun i f l hfl => ?_⟩
      ·obtain ⟨b', off', e, hb, _⟩ := hsl (by omega)
       simp only [sEq, Addr.mk.injEq] at e; rw [e.1]; exact hb
      ·show l.fits ((L.getD i []).getD f 0) /\ (i < len -> _ = some (l.val ((L.getD i []).getD f 0)))
       by_cases hi : i < L.length
       ·have hget : L.getD i [] = L[i] := by simp [hi]
        rw [hget]; refine ⟨fits_get f l (hok _ (List.getElem_mem hi)) hfl, fun hil => ?_⟩
        obtain ⟨b', off', e, hb, hcell⟩ := hsl (by omega)
        simp only [sEq, Addr.mk.injEq] at e; obtain ⟨rfl, rfl, _⟩ := e; have := hcell i (vals ks' L[i]) (by simp [hi]) f (l.val (L[i].getD f 0)) (by rw [vals_get, hfl]; rfl)
        rw [hkl, <- Nat.add_assoc]; exact this
       ·have hget : L.getD i [] = [] := by simp [hi]
        rw [hget]; refine ⟨by simpa using fits_zero l, fun hil => ?_⟩
        rw [List.length_map] at hlen; omega
    ·cases hs
   ·cases hs
  ·cases hs
 ·cases h : shOf P t <;> simp [h] at hs
theorem open_phs : ∀ {ts : List TypeId} {hs : List Ph} {vs : List Value} {ds : List (DataW H)} {p : List MemPlace}, phsOf P ts = some hs -> (∀ (j : Nat) t v, ts[j]? = some t -> vs[j]? = some v -> Value.okWide P W .any base t v) ->
  DataW.TrodAll enc P W 0 (fun _ => true) true ts vs ds p -> ∃ (ns : List Int) (ss : List Value), vs = phVals hs ns ss /\ phFits hs ns /\ slFits W hs ss /\ ns.length = phSize hs
 | [], hs, vs, ds, p, h, _, hA => by
  obtain rfl := sinj h; cases vs with
  | nil => exact ⟨[], [], rfl, trivial, trivial, rfl⟩
  | cons v vs => cases ds <;> exact hA.elim
 | t :: ts, hs, [], ds, p, _, _, hA => by cases ds <;> exact hA.elim
 | t :: ts, hs, v :: vs, ds, p, h, hval, hA => by
  unfold phsOf at h; split at h
  ·rename_i h1 hs1 hh hhs
   obtain rfl := sinj h; cases ds with
   | nil => exact hA.elim
   | cons d ds =>
    obtain ⟨p0, q0, a0, a1, _⟩ := hA; obtain ⟨ms, ss, rfl, m2, m3, m4⟩ := open_phs hhs (fun j t v ht hv => hval (j + 1) t v (by simpa using ht) (by simpa using hv)) a1
    cases h1 with
    | sh h1 =>
     have hh' : shOf P t = some h1 := by
      unfold phOf at hh; split at hh
      ·split at hh
       ·split at hh
        ·split at hh <;> cases hh
        ·cases hh
       ·cases hh
      ·cases hq : shOf P t with
       | none => simp [hq] at hh
       | some q => simp only [hq, Option.map_some, sEq, Ph.sh.injEq] at hh; rw [hh]
     obtain ⟨ns, n1, rfl, n3⟩ := open_sh hh' (hval 0 t v rfl rfl) a0; refine ⟨ns ++ ms, ss, ?_, ?_, m3, by simp [phSize, n1, m4]⟩
     ·simp only [phVals]
      rw [(Sh.val_append n1).1, <- n1, List.drop_left]
     ·simp only [phFits]
      rw [(Sh.val_append n1).2, <- n1, List.drop_left]; exact ⟨n3, m2⟩
    | sl ks => exact ⟨ms, v :: ss, rfl, m2, ⟨open_sl hh (hval 0 t v rfl rfl) a0, m3⟩, m4⟩
  ·cases h
theorem pays_phs {X : World -> Prop} {F : FuncId} {fn : Func} {hs : List Ph} (hsh : phsOf P fn.params.toList = some hs)
  (hlaw : ∀ (ns : List Int) (ss : List Value), phFits hs ns -> ns.length = phSize hs -> ∀ W, slFits W hs ss -> X W -> Calls P F (phVals hs ns ss).toArray W fun e W' => e = .returned (.bool true) /\ Below W.heap.size W W')
  (W : World) (base : Nat) (args : Array Value) (ds : List (DataW H)) (p : List MemPlace)
  (hval : ∀ (j : Nat) t v, fn.params[j]? = some t -> args[j]? = some v -> Value.okWide P W .any base t v) (hA : DataW.TrodAll enc P W 0 (fun _ => true) true fn.params.toList args.toList ds p) (_ : ∀ x ∈ p, x.block < W.heap.size) (hX : X W) : Pays P F args W := by
 obtain ⟨ns, ss, h1, h2, h3, h4⟩ := open_phs hsh (fun j t v ht hv => hval j t v (by simpa using ht) (by simpa using hv)) hA
 have : args = (phVals hs ns ss).toArray := by rw [<- h1]
 rw [this]; exact hlaw ns ss h2 h4 W h3 hX
end
section
variable {P : Program} {ρ : Env} {w0 : World} {M : Nat -> Prop} {β : Bm} {w : World} {hp : Hp}
def envA (F : Mng) (ns : List Int) (A : Nat -> Nat -> Int -> Int) : Env := ⟨fun i => ns.getD i 0, A, F⟩
def phArgs (k m : Nat) (raw : Option SV) : List Ph -> Nat -> List SV
 | [], _ => []
 | .sh h :: l, i => varSh h i :: phArgs k m raw l (i + h.size)
 | .sl ks :: l, i => raw.getD (.inp k ks.length 0 (.var m) (.var m) (.var (m + 1))) :: phArgs k m raw l i
def phKs : List Ph -> List Lk
 | [] => []
 | .sh _ :: l => phKs l
 | .sl ks :: _ => ks
def phOne : List Ph -> Bool
 | [] => false
 | .sh _ :: l => phOne l
 | .sl ks :: l => !ks.isEmpty && l.all fun p => match p with
  | .sh _ => true
  | .sl _ => false
def phFacts : List Ph -> Nat -> Fs
 | [], _ => []
 | .sh h :: l, i => shFacts h i ++ phFacts l (i + h.size)
 | .sl _ :: l, i => phFacts l i
def arrHp (tabs : Tabs) (ks : List Lk) (m : Nat) : Hp := (tabHp tabs).push ⟨false, .arr 0 ks (.var m)⟩
def noHp (tabs : Tabs) : Hp := (tabHp tabs).push ⟨false, .gone⟩
section
variable {F : Mng} {ns : List Int} {A : Nat -> Nat -> Int -> Int} {β : Bm} {n : Nat}
theorem varLk_specA {l : Lk} {i : Nat} (h : l.fits (ns.getD i 0)) : (varLk l i).ev (envA F ns A) β = l.val (ns.getD i 0) /\ (varLk l i).ok (envA F ns A) n := by
 cases l
 ·exact ⟨rfl, h⟩
 ·exact ⟨rfl, trivial⟩
theorem varLks_specA : ∀ {ls : List Lk} {i : Nat}, SX.fits ls (ns.drop i) -> SV.evs (envA F ns A) β (varLks ls i) = vals ls (ns.drop i) /\ SV.oks (envA F ns A) n (varLks ls i)
 | [], _, _ => ⟨rfl, trivial⟩
 | l :: ls, i, h => by
  simp only [SX.fits, headD_drop, List.tail_drop] at h; obtain ⟨a1, a2⟩ := varLk_specA (F := F) (A := A) (β := β) (n := n) h.1; obtain ⟨b1, b2⟩ := varLks_specA (ls := ls) (i := i + 1) h.2; refine ⟨?_, ⟨a2, b2⟩⟩; simp only [varLks, SV.evs, vals, a1, b1, headD_drop, List.tail_drop]
theorem varSh_specA {h : Sh} {i : Nat} (hf : h.fits (ns.drop i)) : (varSh h i).ev (envA F ns A) β = h.val (ns.drop i) /\ (varSh h i).ok (envA F ns A) n := by
 cases h with
 | one l =>
  simp only [Sh.fits, headD_drop] at hf
  simpa only [varSh, Sh.val, headD_drop] using varLk_specA (F := F) (A := A) (β := β) (n := n) hf
 | agg ls =>
  obtain ⟨a1, a2⟩ := varLks_specA (F := F) (A := A) (β := β) (n := n) (i := i) hf; exact ⟨by simp only [varSh, SV.ev, Sh.val, a1], a2⟩
theorem phArgs_spec {k m : Nat} {raw : Option SV} {S : Value} {ks : List Lk} (hS : (raw.getD (.inp k ks.length 0 (.var m) (.var m) (.var (m + 1)))).ev (envA F ns A) β = S) (hk : (raw.getD (.inp k ks.length 0 (.var m) (.var m) (.var (m + 1)))).ok (envA F ns A) n) :
  ∀ {hs : List Ph} {i : Nat} {ss : List Value}, phFits hs (ns.drop i) -> (∀ p ∈ hs, ∀ ks', p = .sl ks' -> ks' = ks) -> (∀ j, j < (hs.filter fun p => match p with | .sh _ => false | .sl _ => true).length -> ss[j]? = some S) ->
   SV.evs (envA F ns A) β (phArgs k m raw hs i) = phVals hs (ns.drop i) ss /\ SV.oks (envA F ns A) n (phArgs k m raw hs i)
 | [], _, _, _, _, _ => ⟨rfl, trivial⟩
 | .sh h :: l, i, ss, hf, hks, hss => by
  simp only [phFits, List.drop_drop] at hf; obtain ⟨a1, a2⟩ := varSh_specA (F := F) (A := A) (β := β) (n := n) hf.1; obtain ⟨b1, b2⟩ := phArgs_spec hS hk (hs := l) (i := i + h.size) (ss := ss) hf.2 (fun p hp => hks p (lTl _ hp)) (fun j hj => hss j (by simpa using hj))
  refine ⟨?_, a2, b2⟩; simp only [phArgs, SV.evs, phVals, a1, b1, List.drop_drop]
 | .sl ks' :: l, i, ss, hf, hks, hss => by
  obtain rfl := hks _ (lHd ..) ks' rfl; have h0 := hss 0 (by simp)
  cases ss with
  | nil => simp at h0
  | cons s ss =>
   simp only [List.getElem?_cons_zero, sEq] at h0; subst h0
   obtain ⟨b1, b2⟩ := phArgs_spec hS hk (hs := l) (i := i) (ss := ss) hf (fun p hp => hks p (lTl _ hp)) (fun j hj => by
    have := hss (j + 1) (by simp only [List.filter_cons, if_true, List.length_cons]; omega)
    simpa using this)
   refine ⟨?_, hk, b2⟩; simp only [phArgs, SV.evs, phVals, hS, b1, List.headD_cons, List.tail_cons]
theorem shFacts_okA {h : Sh} {i : Nat} (hf : h.fits (ns.drop i)) : FsOk (envA F ns A) (shFacts h i) := by
 have hl : ∀ {l : Lk} {i : Nat}, l.fits (ns.getD i 0) -> FsOk (envA F ns A) (lkFacts l i) := fun {l i} h p hp => by
  cases l with
  | bool => cases hp
  | int k =>
   obtain rfl : p = (.bin .zrng k (.var i) (.lit 0), true) := by simpa [lkFacts] using hp
   have := (wf_iff k _).1 h; show (if k.min <= ns.getD i 0 /\ ns.getD i 0 <= k.max then (1 : Int) else 0) ≠ 0 ↔ true = true
   rw [if_pos this]; simp
 have hls : ∀ {ls : List Lk} {i : Nat}, SX.fits ls (ns.drop i) -> FsOk (envA F ns A) (lksFacts ls i) := fun {ls} => by
  induction ls with
  | nil => exact fun _ p hp => by cases hp
  | cons l ls ih =>
   intro i h; simp only [SX.fits, headD_drop, List.tail_drop] at h; exact fsOk_app (hl h.1) (ih h.2)
 cases h with
 | one l =>
  simp only [Sh.fits, headD_drop] at hf; exact hl hf
 | agg ls => exact hls hf
theorem phFacts_ok : ∀ {hs : List Ph} {i : Nat}, phFits hs (ns.drop i) -> FsOk (envA F ns A) (phFacts hs i)
 | [], _, _ => fun p hp => by cases hp
 | .sh h :: l, i, hf => by
  simp only [phFits, List.drop_drop] at hf; exact fsOk_app (shFacts_okA hf.1) (phFacts_ok hf.2)
 | .sl _ :: l, i, hf => phFacts_ok (hs := l) hf
theorem ph_append : ∀ {hs : List Ph} {ns ms : List Int} {ss : List Value}, ns.length = phSize hs -> phVals hs (ns ++ ms) ss = phVals hs ns ss /\ (phFits hs (ns ++ ms) ↔ phFits hs ns)
 | [], _, _, _, _ => ⟨rfl, Iff.rfl⟩
 | .sh h :: l, ns, ms, ss, hl => by
  simp only [phSize] at hl; have h1 : (ns.take h.size).length = h.size := by simp; omega
  have h2 : (ns.drop h.size).length = phSize l := by simp; omega
  have e1 : ns ++ ms = ns.take h.size ++ (ns.drop h.size ++ ms) := by rw [<- List.append_assoc, List.take_append_drop]
  have e2 : (ns ++ ms).drop h.size = ns.drop h.size ++ ms := by rw [List.drop_append_of_le_length (by omega)]
  obtain ⟨a1, a2⟩ := Sh.val_append (h := h) (ms := ns.drop h.size ++ ms) h1; obtain ⟨b1, b2⟩ := Sh.val_append (h := h) (ms := ns.drop h.size) h1; rw [List.take_append_drop] at b1 b2; obtain ⟨c1, c2⟩ := ph_append (hs := l) (ms := ms) (ss := ss) h2; simp only [phVals, phFits, e2, c1, c2]; rw [e1, a1, b1, a2, b2]; exact ⟨rfl, Iff.rfl⟩
 | .sl _ :: l, ns, ms, ss, hl => by
  obtain ⟨c1, c2⟩ := ph_append (hs := l) (ns := ns) (ms := ms) (ss := ss.tail) hl; simp only [phVals, phFits, c1, c2]; exact ⟨trivial, trivial⟩
theorem phOne_spec : ∀ {hs : List Ph} {w : World} {ss : List Value}, phOne hs = true -> slFits w hs ss -> 0 < (phKs hs).length /\ (∀ p ∈ hs, ∀ ks', p = .sl ks' -> ks' = phKs hs) /\
  ∃ S, InSl w (phKs hs) S /\ ∀ j, j < (hs.filter fun p => match p with | .sh _ => false | .sl _ => true).length -> ss[j]? = some S
 | [], _, _, h, _ => by cases h
 | .sh h :: l, w, ss, h1, hs => by
  obtain ⟨a1, a2, S, a3, a4⟩ := phOne_spec (hs := l) h1 hs; refine ⟨a1, fun p hp ks' e => ?_, S, a3, fun j hj => a4 j (by simpa using hj)⟩
  rcases mCo.1 hp with rfl | hp
  ·cases e
  ·exact a2 p hp ks' e
 | .sl ks :: l, w, ss, h1, hs => by
  simp only [phOne, bAnd, Bool.not_eq_true', lAl] at h1; obtain ⟨h0, h1⟩ := h1; obtain ⟨hS, _⟩ := hs
  have hl : ∀ p ∈ l, ∀ ks', p ≠ .sl ks' := fun p hp ks' e => by
   have := h1 p hp; subst e; cases this
  refine ⟨by cases ks with | nil => cases h0 | cons a l => simp [phKs], fun p hp ks' e => ?_, ss.headD undef, hS, fun j hj => ?_⟩
  ·rcases mCo.1 hp with rfl | hp
   ·cases e; rfl
   ·exact (hl p hp ks' e).elim
  ·have hf : l.filter (fun p => match p with | .sh _ => false | .sl _ => true) = [] := by
    rw [List.filter_eq_nil_iff]; intro p hp; cases p with
    | sh h => simp
    | sl ks' => exact (hl _ hp ks' rfl).elim
   simp only [List.filter_cons, if_true, hf, List.length_cons, List.length_nil] at hj; obtain rfl : j = 0 := by omega
   cases ss with
   | nil =>
    exfalso
    simp only [List.headD_nil, InSl] at hS; rcases hS with hS | ⟨_, _, _, _, _, hS, _⟩ <;> cases hS
   | cons s ss => rfl
end
end
section
variable {P : Program} {F : Mng}
def rawNil : SV := .raw (.slice none 0 0)
def inpNo (k z m : Nat) : SV := .inp k z 0 (.lit 0) (.lit 0) (.var (m + 1))
theorem wrap_fit {k : IntKind} {x : Int} (h : k.min <= x /\ x <= k.max) : k.wrap x = x := by
 cases k <;> simp [IntKind.wrap, IntKind.min, IntKind.max, IntKind.bits, IntKind.signed] at * <;> omega
def arrOf (ks : List Lk) (c : Nat -> Nat -> Int) : Nat -> Nat -> Int -> Int := fun _ cd i => match ks[cd / 8]? with
 | some .bool => if c (cd / 8) i.toNat ≠ 0 then 1 else 0
 | _ => c (cd / 8) i.toNat
theorem arrOf_spec {ns : List Int} {ks : List Lk} {c : Nat -> Nat -> Int} {i f : Nat} {l : Lk} (hl : ks[f]? = some l) (hf : l.fits (c f i)) :
  l.val ((envA F ns (arrOf ks c)).rd 0 (l.code f) i) = l.val (c f i) /\ l.fits ((envA F ns (arrOf ks c)).rd 0 (l.code f) i) := by
 cases l with
 | int k =>
  have h8 : (8 * f + kTag k) / 8 = f := by cases k <;> simp only [kTag] <;> omega
  have hw : k.wrap (c f i) = c f i := wrap_fit ((wf_iff k _).1 hf)
  have : (envA F ns (arrOf ks c)).rd 0 ((Lk.int k).code f) i = c f i := by
   show (kOf (8 * f + kTag k)).wrap (arrOf ks c 0 (8 * f + kTag k) i) = _; rw [kOf_code]; simp only [arrOf, h8, hl, Int.toNat_natCast, hw]
  rw [this]; exact ⟨rfl, hf⟩
 | bool =>
  have h8 : (8 * f + 3) / 8 = f := by omega
  refine ⟨?_, trivial⟩
  have : (envA F ns (arrOf ks c)).rd 0 (Lk.bool.code f) i = if c f i ≠ 0 then 1 else 0 := by
   show (kOf (8 * f + 3)).wrap (arrOf ks c 0 (8 * f + 3) i) = _; have hk : kOf (8 * f + 3) = .i64 := kOf_code f .i64; rw [hk]; simp only [arrOf, h8, hl, Int.toNat_natCast]; split <;> decide
  rw [this]; simp only [Lk.val]; split <;> simp_all
inductive CT where
 | leaf | split (e : E) (t f : CT)
def CT.all : CT -> (Fs -> Prop) -> Prop
 | .leaf, k => k []
 | .split e a b, k => (a.all fun p => k ((e, true) :: p)) /\ (b.all fun p => k ((e, false) :: p))
theorem CT.mk0 {k : Fs -> Prop} (h : k []) : CT.leaf.all k := h
theorem CT.mk2 {e : E} {a b : CT} {k : Fs -> Prop} (h1 : a.all fun p => k ((e, true) :: p)) (h2 : b.all fun p => k ((e, false) :: p)) : (CT.split e a b).all k := ⟨h1, h2⟩
theorem CT.some (ρ : Env) : ∀ {c : CT} {k : Fs -> Prop}, c.all k -> ∃ p, FsOk ρ p /\ k p
 | .leaf, k, h => ⟨[], fun _ h => (by cases h), h⟩
 | .split e a b, k, h => by
  by_cases he : e.ev ρ = 0
  ·obtain ⟨p, h1, h2⟩ := CT.some ρ h.2
   refine ⟨(e, false) :: p, fun q hq => ?_, h2⟩
   rcases mCo.1 hq with rfl | hq
   ·simp [he]
   ·exact h1 q hq
  ·obtain ⟨p, h1, h2⟩ := CT.some ρ h.1
   refine ⟨(e, true) :: p, fun q hq => ?_, h2⟩
   rcases mCo.1 hq with rfl | hq
   ·simp [he]
   ·exact h1 q hq
end
end SX
namespace SX
open Go Go.RowKit
mutual
def E.free (m : Nat) : E -> Bool
 | .lit _ => true
 | .var _ => true
 | .rd _ _ i => E.free m i
 | .bin _ _ a b => E.free m a && E.free m b
 | .app f _ l => f != m && E.frees m l
def E.frees (m : Nat) : List E -> Bool
 | [] => true
 | e :: l => E.free m e && E.frees m l
end
def But (m : Nat) (F G : Mng) : Prop := ∀ f, f ≠ m -> F f = G f
mutual
theorem E.ev_free {m : Nat} {F G : Mng} (h : But m F G) (ns : List Int) : ∀ e : E, e.free m = true -> e.ev (envOf F ns) = e.ev (envOf G ns)
 | .lit _, _ => rfl
 | .var _, _ => rfl
 | .rd a f i, hf => by simp only [E.ev]; rw [E.ev_free h ns i hf]; rfl
 | .bin o k a b, hf => by
  simp only [E.free, bAnd] at hf; simp only [E.ev]; rw [E.ev_free h ns a hf.1, E.ev_free h ns b hf.2]
 | .app f j l, hf => by
  simp only [E.free, bAnd, bne_iff_ne, ne_eq] at hf; simp only [E.ev]; rw [E.evs_free h ns l hf.2]; show F f j _ = G f j _; rw [h f hf.1]
theorem E.evs_free {m : Nat} {F G : Mng} (h : But m F G) (ns : List Int) : ∀ l : List E, E.frees m l = true -> E.evs (envOf F ns) l = E.evs (envOf G ns) l
 | [], _ => rfl
 | e :: l, hf => by
  simp only [E.frees, bAnd] at hf; simp only [E.evs]; rw [E.ev_free h ns e hf.1, E.evs_free h ns l hf.2]
end
def T.pick {α : Type} (ρ : Env) : T α -> Option α
 | .ok a => some a
 | .br c t e => if c.ev ρ ≠ 0 then t.pick ρ else e.pick ρ
 | .both _ _ => none
 | .bad _ => none
def unpackS (rs : List Sh) (v : SV) : List SV :=
 match rs, v with
 | [_], v => [v]
 | _, .tuple l => l
 | _, _ => []
def leafE (rs : List Sh) (o : Out) : Option (List E) := if o.v.flat = true /\ rs.isEmpty = false then shTakes rs (unpackS rs o.v) else none
def T.good (m : Nat) (rs : List Sh) : T Out -> Bool
 | .ok o => match leafE rs o with
  | some es => E.frees m es
  | none => false
 | .br c t e => c.free m && t.good m rs && e.good m rs
 | .both _ _ => false
 | .bad _ => false
theorem T.good_pick {m : Nat} {rs : List Sh} {F G : Mng} (h : But m F G) (ns : List Int) : ∀ {t : T Out}, t.good m rs = true ->
  ∃ o es, t.pick (envOf G ns) = some o /\ leafE rs o = some es /\ E.evs (envOf F ns) es = E.evs (envOf G ns) es /\ ∀ Q : Out -> Prop, Q o -> t.holds (envOf F ns) Q
 | .ok o, hg => by
  unfold T.good at hg; split at hg
  ·rename_i es he
   exact ⟨o, es, rfl, he, E.evs_free h ns es hg, fun Q hQ => hQ⟩
  ·cases hg
 | .br c t e, hg => by
  simp only [T.good, bAnd] at hg; have hc := E.ev_free h ns c hg.1.1; obtain ⟨o, es, a1, a2, a3, a4⟩ := T.good_pick h ns hg.1.2; obtain ⟨o', es', b1, b2, b3, b4⟩ := T.good_pick h ns hg.2
  by_cases h0 : c.ev (envOf G ns) = 0
  ·refine ⟨o', es', by simp only [T.pick]; rw [if_neg (by simpa using h0)]; exact b1, b2, b3, fun Q hQ => ⟨fun h1 => absurd (hc.trans h0) h1, fun _ => b4 Q hQ⟩⟩
  ·refine ⟨o, es, by simp only [T.pick]; rw [if_pos h0]; exact a1, a2, a3, fun Q hQ => ⟨fun _ => a4 Q hQ, fun h1 => absurd (hc.symm.trans h1) h0⟩⟩
 | .both _ _, hg => by cases hg
 | .bad _, hg => by cases hg
def lksWrap : List Lk -> List Int -> List Int
 | [], _ => []
 | l :: ls, ns => (match l with
  | .int k => k.wrap (ns.headD 0)
  | .bool => ns.headD 0) :: lksWrap ls ns.tail
def shLks : List Sh -> List Lk
 | [] => []
 | .one l :: hs => l :: shLks hs
 | .agg ls :: hs => ls ++ shLks hs
def autoF (G : Mng) (rs : List Sh) (t : T Out) (j : Nat) (ns : List Int) : Int :=
 match t.pick (envOf G ns) with
 | some o => match leafE rs o with
  | some es => (lksWrap (shLks rs) (E.evs (envOf G ns) es)).getD j 0
  | none => 0
 | none => 0
theorem wrap_fits : ∀ (ls : List Lk) (ns : List Int), ns.length = ls.length -> SX.fits ls ns -> lksWrap ls ns = ns
 | [], [], _, _ => rfl
 | [], _ :: _, h, _ => by cases h
 | _ :: _, [], h, _ => by cases h
 | .int k :: ls, n :: ns, h, hf => by
  have h1 : k.wrap n = n := wrap_fit ((wf_iff k n).1 hf.1); simp only [lksWrap, List.headD_cons, List.tail_cons, h1]; rw [wrap_fits ls ns (by simpa using h) hf.2]
 | .bool :: ls, n :: ns, h, hf => by
  simp only [lksWrap, List.headD_cons, List.tail_cons]; rw [wrap_fits ls ns (by simpa using h) hf.2]
theorem fits_app : ∀ (ls ms : List Lk) (ns : List Int), SX.fits (ls ++ ms) ns ↔ SX.fits ls ns /\ SX.fits ms (ns.drop ls.length)
 | [], ms, ns => by simp [SX.fits]
 | l :: ls, ms, ns => by
  have := fits_app ls ms ns.tail; have e : ns.tail.drop ls.length = ns.drop (ls.length + 1) := by cases ns <;> simp
  simp only [List.cons_append, SX.fits, this, e, List.length_cons]; exact and_assoc.symm
theorem shFits_lks : ∀ (hs : List Sh) (ns : List Int), shFits hs ns ↔ SX.fits (shLks hs) ns
 | [], _ => Iff.rfl
 | .one l :: hs, ns => by
  have e : ns.drop 1 = ns.tail := by cases ns <;> simp
  simp only [shFits, Sh.fits, Sh.size, shLks, SX.fits, shFits_lks hs, e]
 | .agg ls :: hs, ns => by
  simp only [shFits, Sh.fits, Sh.size, shLks, shFits_lks hs, fits_app]
theorem length_shLks : ∀ hs : List Sh, (shLks hs).length = shSize hs
 | [] => rfl
 | .one l :: hs => by simp [shLks, shSize, Sh.size, length_shLks hs, Nat.add_comm]
 | .agg ls :: hs => by simp [shLks, shSize, Sh.size, length_shLks hs]
theorem shTakes_len : ∀ {hs : List Sh} {ss : List SV} {es : List E}, shTakes hs ss = some es -> es.length = shSize hs
 | [], [], es, h => by obtain rfl := sinj h; rfl
 | [], _ :: _, es, h => by cases h
 | _ :: _, [], es, h => by cases h
 | h :: hs, s :: ss, es, ht => by
  unfold shTakes at ht; split at ht
  ·rename_i e es' he hes
   obtain rfl := sinj ht; have h1 := shTakes_len hes
   have h2 : e.length = h.size := by
    have htk : ∀ {ls : List Lk} {ss : List SV} {es : List E}, takes ls ss = some es -> es.length = ls.length := fun {ls} => by
     induction ls with
     | nil => intro ss es h; cases ss with
      | nil => obtain rfl := sinj h; rfl
      | cons s ss => cases h
     | cons l ls ih => intro ss es h; cases ss with
      | nil => cases h
      | cons s ss =>
       unfold takes at h; split at h
       ·rename_i e es' _ hes
        obtain rfl := sinj h; simp [ih hes]
       ·cases h
    unfold Sh.take at he; split at he
    ·rename_i l
     cases hl : l.take s with
     | none => simp [hl] at he
     | some e' => simp only [hl, Option.map_some, sEq] at he; subst he; rfl
    ·exact htk he
    ·cases he
   simp only [List.length_append, h1, h2, shSize, List.map_cons, List.foldr_cons]
  ·cases ht
theorem fnVals_getD (L : List Int) (ns : List Int) : ∀ (F : Nat -> List Int -> Int) (j : Nat), (∀ i, F (j + i) ns = L.getD i 0) -> fnVals F ns L.length j = L := by
 induction L with
 | nil => intro F j _; rfl
 | cons x L ih =>
  intro F j h; have h0 := h 0; simp only [fnVals, List.length_cons, List.range'_succ, List.map_cons]
  have : (List.range' (j + 1) L.length).map (fun i => F i ns) = L := ih F (j + 1) fun i => by
   have := h (i + 1); rw [show j + 1 + i = j + (i + 1) by omega, this]
   simp
  rw [this]; simp at h0; rw [h0]
section
variable {P : Program} {F G : Mng} {okF : FuncId -> Bool} {sums : Sums} {keep : FuncId -> Nat -> List Nat} {fuel n : Nat}
theorem packV_unpack {rs : List Sh} {v : SV} {es : List E} {ρ : Env} {k : Nat} (h0 : rs.isEmpty = false) (hv : v.ok ρ k) (h : shTakes rs (unpackS rs v) = some es) : v.ev ρ β0 = packV (SV.evs ρ β0 (unpackS rs v)) /\ SV.oks ρ k (unpackS rs v) := by
 match rs, h0, h with
 | [], h0, _ => cases h0
 | [_], _, _ => exact ⟨rfl, hv, trivial⟩
 | a :: b :: c, _, h =>
  cases v with
  | tuple l =>
   refine ⟨?_, hv⟩
   match l, h with
   | [], h => cases h
   | [s], h =>
    exfalso
    simp only [unpackS] at h; unfold shTakes at h; split at h
    ·rename_i hes
     simp [shTakes] at hes
    ·cases h
   | _ :: _ :: _, _ => rfl
  | _ => simp [unpackS, shTakes] at h
theorem leaf_run (hm : P.follows .mixedOrders = true) (hok : ∀ f, okF f = true -> ∀ as w, (callFunc f as).run P w = .ok (.enter f as) w) {name : Nat} (hB : But name F G) {f : FuncId} {ps rs : List Sh} {ns : List Int} (hns : shFits ps ns) {w : World}
  (hsum : SumsOk P (envOf F ns) w (fun _ => False) sums) {fs0 : Fs} (hfs : FsOk (envOf F ns) fs0) (hg : (callF P [] okF sums keep fuel n f (varShs ps 0) .nil fs0).good name rs = true) :
  ∃ o es, (callF P [] okF sums keep fuel n f (varShs ps 0) .nil fs0).pick (envOf G ns) = some o /\ leafE rs o = some es /\ E.evs (envOf F ns) es = E.evs (envOf G ns) es /\
   Calls P f (shVals ps ns).toArray w fun e w' => e = .returned (packV (shVals rs (E.evs (envOf F ns) es))) /\ FsOk (envOf F ns) o.fs /\ shFits rs (E.evs (envOf F ns) es) /\ Below w.heap.size w w' := by
 obtain ⟨o, es, p1, p2, p3, p4⟩ := T.good_pick hB ns hg; obtain ⟨e1, e2, e3⟩ := varShs_spec (F := F) (β := β0) (n := 0) (hs := ps) (i := 0) hns; rw [List.drop_zero] at e1; refine ⟨o, es, p1, p2, p3, ?_⟩
 have hr := (callF_run (gl := []) (keep := keep) (fuel := fuel) hm hok hsum n f (varShs ps 0) .nil fs0 β0 w (fun v w' => v = packV (shVals rs (E.evs (envOf F ns) es)) /\ FsOk (envOf F ns) o.fs /\ shFits rs (E.evs (envOf F ns) es) /\ Below w.heap.size w w') (heap_nil ..) hfs e2 (fun _ h => by cases h)
  (p4 _ fun β' w' _ _ _ hh hf hv => by
   unfold leafE at p2; split at p2
   ·rename_i hc
    obtain ⟨q1, q2⟩ := packV_unpack hc.2 hv p2; obtain ⟨r1, r2⟩ := shTakes_spec (β := β0) q2 p2; exact ⟨by rw [SV.ev_flat β' β0 _ hc.1, q1, r1], hf, r2, hh.kept.to_below⟩
   ·cases p2)).2
 rw [e1] at hr; exact hr.mono fun e w' ⟨v, he, hv, hx⟩ => ⟨by rw [he, hv], hx⟩
theorem calls_some {f : FuncId} {args : Array Value} {w : World} {R : Ending -> World -> Prop} {X : Prop} (h : Calls P f args w R) (hx : ∀ e w', R e w' -> X) : X := by
 obtain ⟨e, w', fr, hr, _⟩ := h []; exact hx e w' hr
theorem smAuto (hm : P.follows .mixedOrders = true) (hok : ∀ f, okF f = true -> ∀ as w, (callFunc f as).run P w = .ok (.enter f as) w) {s : Sm} (hB : But s.name F G) {w0 : World} {M : Nat -> Prop}
  (hsum : ∀ (ns : List Int) (w : World), Kept w0 M w -> SumsOk P (envOf F ns) w (fun _ => False) sums) {ρ : Env} (hρ : ρ.fn = F)
  (hF : ∀ ns j, F s.name j ns = autoF G s.rs (callF P [] okF sums keep fuel n s.f (varShs s.ps 0) .nil (varFacts s.ps 0)) j ns)
  (hg : (callF P [] okF sums keep fuel n s.f (varShs s.ps 0) .nil (varFacts s.ps 0)).good s.name s.rs = true) : SmOk P ρ w0 M s := fun ns hns => by
 rw [hρ]; have hfs := varFacts_ok (F := F) (hs := s.ps) (i := 0) (ns := ns) (by rwa [List.drop_zero])
 have key : ∀ w, Kept w0 M w -> shFits s.rs (fnVals (F s.name) ns (shSize s.rs) 0) /\ Calls P s.f (shVals s.ps ns).toArray w fun e w' => e = .returned (packV (shVals s.rs (fnVals (F s.name) ns (shSize s.rs) 0))) /\ Below w.heap.size w w' := fun w hw => by
  obtain ⟨o, es, p1, p2, p3, hc⟩ := leaf_run hm hok hB hns (hsum ns w hw) hfs hg; have hfit : shFits s.rs (E.evs (envOf F ns) es) := calls_some hc fun _ _ h => h.2.2.1
  have hlen : es.length = shSize s.rs := by
   unfold leafE at p2; split at p2
   ·exact shTakes_len p2
   ·cases p2
  have hlen' : (E.evs (envOf F ns) es).length = shSize s.rs := by rw [evs_len, hlen]
  have hval : fnVals (F s.name) ns (shSize s.rs) 0 = E.evs (envOf F ns) es := by
   rw [<- hlen']; refine fnVals_getD _ ns _ 0 fun i => ?_
   rw [Nat.zero_add, hF ns i]; unfold autoF; simp only [p1, p2]; rw [<- p3, wrap_fits _ _ (by rw [hlen', length_shLks]) ((shFits_lks _ _).1 hfit)]
  rw [hval]; exact ⟨hfit, hc.mono fun e w' h => ⟨h.1, h.2.2.2⟩⟩
 exact ⟨(key w0 (Kept.refl w0 M)).1, fun w hw => (key w hw).2⟩
theorem SmOk.congr {ρ ρ' : Env} {w0 : World} {M : Nat -> Prop} {s : Sm} (he : ρ'.fn s.name = ρ.fn s.name) (h : SmOk P ρ w0 M s) : SmOk P ρ' w0 M s := fun ns hns => by
 rw [he]; exact h ns hns
def sameE (fs : Fs) : List E -> List E -> Bool
 | [], [] => true
 | a :: l, b :: m => (a.beq b || (canon fs a).beq (canon fs b)) && sameE fs l m
 | _, _ => false
theorem sameE_spec {ρ : Env} {fs : Fs} (hf : FsOk ρ fs) : ∀ {l m : List E}, sameE fs l m = true -> E.evs ρ l = E.evs ρ m
 | [], [], _ => rfl
 | [], _ :: _, h => by cases h
 | _ :: _, [], h => by cases h
 | a :: l, b :: m, h => by
  simp only [sameE, bAnd, bOr] at h; simp only [E.evs]; rw [sameE_spec hf h.2]; congr 1; rcases h.1 with h | h
  ·rw [E.beq_eq _ _ h]
  ·rw [<- canon_ev hf a, <- canon_ev hf b, E.beq_eq _ _ h]
def sameO (rs : List Sh) (a b : Out) : Bool :=
 match leafE rs a, leafE rs b with
 | some es, some es' => sameE b.fs es es'
 | _, _ => false
def both2 (P : Program) (okF : FuncId -> Bool) (sums : Sums) (keep : FuncId -> Nat -> List Nat) (fuel n : Nat) (f g : FuncId) (ps : List Sh) : T (Out × Out) :=
 (callF P [] okF sums keep fuel n f (varShs ps 0) .nil (varFacts ps 0)).bind fun a => (callF P [] okF sums keep fuel n g (varShs ps 0) .nil a.fs).bind fun b => .ok (a, b)
theorem smAuto2 (hm : P.follows .mixedOrders = true) (hok : ∀ f, okF f = true -> ∀ as w, (callFunc f as).run P w = .ok (.enter f as) w) {s : Sm} {g : FuncId} (hB : But s.name F G) {w0 : World} {M : Nat -> Prop}
  (hsum : ∀ (ns : List Int) (w : World), Kept w0 M w -> SumsOk P (envOf F ns) w (fun _ => False) sums) {ρ : Env} (hρ : ρ.fn = F)
  (hF : ∀ ns j, F s.name j ns = autoF G s.rs (callF P [] okF sums keep fuel n s.f (varShs s.ps 0) .nil (varFacts s.ps 0)) j ns)
  (hg : (callF P [] okF sums keep fuel n s.f (varShs s.ps 0) .nil (varFacts s.ps 0)).good s.name s.rs = true)
  (h2 : (both2 P okF sums keep fuel n s.f g s.ps).all (fun p => sameO s.rs p.1 p.2) = true) : SmOk P ρ w0 M { s with f := g } := fun ns hns => by
 have hA := smAuto hm hok hB hsum hρ hF hg ns hns; refine ⟨hA.1, fun w hw => ?_⟩
 rw [hρ] at hA ⊢; have hfs := varFacts_ok (F := F) (hs := s.ps) (i := 0) (ns := ns) (by rwa [List.drop_zero])
 obtain ⟨o, es, p1, p2, p3, hc⟩ := leaf_run hm hok hB hns (hsum ns w hw) hfs hg; have hfo : FsOk (envOf F ns) o.fs := calls_some hc fun _ _ h => h.2.1
 have hval : packV (shVals s.rs (E.evs (envOf F ns) es)) = packV (shVals s.rs (fnVals (F s.name) ns (shSize s.rs) 0)) := by
  obtain ⟨e, w', fr, hr, hcomes⟩ := hc []; have hfit := hr.2.2.1
  have hlen : es.length = shSize s.rs := by
   unfold leafE at p2; split at p2
   ·exact shTakes_len p2
   ·cases p2
  have hlen' : (E.evs (envOf F ns) es).length = shSize s.rs := by rw [evs_len, hlen]
  have : fnVals (F s.name) ns (shSize s.rs) 0 = E.evs (envOf F ns) es := by
   rw [<- hlen']; refine fnVals_getD _ ns _ 0 fun i => ?_
   rw [Nat.zero_add, hF ns i]; unfold autoF; simp only [p1, p2]; rw [<- p3, wrap_fits _ _ (by rw [hlen', length_shLks]) ((shFits_lks _ _).1 hfit)]
  rw [this]
 obtain ⟨e1, e2, e3⟩ := varShs_spec (F := F) (β := β0) (n := 0) (hs := s.ps) (i := 0) (ns := ns) (by rwa [List.drop_zero])
 rw [List.drop_zero] at e1
 -- the other's tree at the way that is taken
 have hpick : ∀ {t : T Out} {Q : Out -> Prop}, t.pick (envOf G ns) = some o -> t.good s.name s.rs = true -> t.holds (envOf F ns) Q -> Q o := fun {t} => by
  induction t with
  | ok a => intro Q hp _ hh; obtain rfl := sinj hp; exact hh
  | br c t e iht ihe =>
   intro Q hp hg hh; simp only [T.good, bAnd] at hg; have hcf := E.ev_free hB ns c hg.1.1; simp only [T.pick] at hp; split at hp
   ·rename_i h0; exact iht hp hg.1.2 (hh.1 (by rw [hcf]; exact h0))
   ·rename_i h0; exact ihe hp hg.2 (hh.2 (by rw [hcf]; simpa using h0))
  | both t e _ _ => intro Q hp; cases hp
  | bad k => intro Q hp; cases hp
 have hall := T.all_holds (ρ := envOf F ns) h2; unfold both2 at hall; rw [T.holds_bind] at hall; have hB2 := hpick p1 hg hall; rw [T.holds_bind] at hB2
 have hr := (callF_run (gl := []) (keep := keep) (fuel := fuel) hm hok (hsum ns w hw) n g (varShs s.ps 0) .nil o.fs β0 w (fun v w' => v = packV (shVals s.rs (fnVals (F s.name) ns (shSize s.rs) 0)) /\ Below w.heap.size w w') (heap_nil ..) hfo e2 (fun _ h => by cases h)
  (T.holds_mono (fun b hb β' w' _ _ _ hh hf hv => by
   have hb : sameO s.rs o b = true := hb; unfold sameO at hb; rw [p2] at hb; split at hb
   ·rename_i es1 es' he1 he2
    obtain rfl := sinj he1; have hs := sameE_spec hf hb; unfold leafE at he2; split at he2
    ·rename_i hcc
     obtain ⟨q1, q2⟩ := packV_unpack hcc.2 hv he2; obtain ⟨r1, r2⟩ := shTakes_spec (β := β0) q2 he2; exact ⟨by rw [SV.ev_flat β' β0 _ hcc.1, q1, r1, <- hs, hval], hh.kept.to_below⟩
    ·cases he2
   ·cases hb) hB2)).2
 rw [e1] at hr; exact hr.mono fun e w' ⟨v, he, hv, hx⟩ => ⟨by rw [he, hv], hx⟩
end
end SX
end Go.Proofs.YtfcpmapfhgibpaaGreatDoor
