/- From trees to contracts; functions that have been proved, as names in expressions. Of no program. -/
import Derived.Test.YthbfjnmdjehljaaDoorSxC
import Derived.Test.YthbfjnmdjehljaaDoorGen
namespace Go.Proofs.YthbfjnmdjehljaaDoor.SX
open Go Go.RowKit
set_option linter.unusedVariables false
set_option linter.unusedSimpArgs false

mutual
/-- No pointers. -/
def SV.flat : SV → Bool
  | .ptr _ _ | .slice _ _ _ _ | .map _ | .inp _ _ _ _ _ _ | .iptr _ _ _ _ _ => false
  | .int _ _ | .bool _ | .raw _ | .str _ => true
  | .agg l => SV.flats l
  | .tuple l => SV.flats l
  | .func _ a b => SV.flats a && SV.flats b
def SV.flats : List SV → Bool
  | [] => true
  | s :: l => SV.flat s && SV.flats l
end
mutual
theorem SV.ev_flat {ρ : Env} (β β' : Bm) : ∀ s : SV, s.flat = true → s.ev ρ β = s.ev ρ β'
  | .int _ _, _ => rfl
  | .bool _, _ => rfl
  | .ptr _ _, h => by cases h
  | .slice _ _ _ _, h => by cases h
  | .map _, h => by cases h
  | .inp _ _ _ _ _ _, h => by cases h
  | .iptr _ _ _ _ _, h => by cases h
  | .str _, _ => rfl
  | .raw _, _ => rfl
  | .agg l, h => by simp only [SV.ev]; rw [SV.evs_flat β β' l h]
  | .tuple l, h => by simp only [SV.ev]; rw [SV.evs_flat β β' l h]
  | .func _ x y, h => by
    simp only [SV.flat, Bool.and_eq_true] at h
    simp only [SV.ev]; rw [SV.evs_flat β β' x h.1, SV.evs_flat β β' y h.2]
theorem SV.evs_flat {ρ : Env} (β β' : Bm) : ∀ l : List SV, SV.flats l = true → SV.evs ρ β l = SV.evs ρ β' l
  | [], _ => rfl
  | s :: l, h => by
    simp only [SV.flats, Bool.and_eq_true] at h
    simp only [SV.evs]; rw [SV.ev_flat β β' s h.1, SV.evs_flat β β' l h.2]
end
def β0 : Bm := fun _ => (0, 0)

/-- All ends meet p, and there are no bad ones. -/
def T.all {α : Type} (p : α → Bool) : T α → Bool
  | .ok a => p a
  | .br _ t e => t.all p && e.all p
  | .both t e => t.all p && e.all p
  | .bad _ => false
theorem T.all_holds {α : Type} {p : α → Bool} {ρ : Env} : ∀ {t : T α}, t.all p = true → t.holds ρ fun a => p a = true
  | .ok a, h => h
  | .br c t e, h => by
    simp only [T.all, Bool.and_eq_true] at h
    exact ⟨fun _ => T.all_holds h.1, fun _ => T.all_holds h.2⟩
  | .both t e, h => by
    simp only [T.all, Bool.and_eq_true] at h
    exact ⟨T.all_holds h.1, T.all_holds h.2⟩
  | .bad _, h => by cases h
def isTrue (o : Out) : Bool :=
  match o.v with
  | .bool (.lit n) => n != 0
  | _ => false

section
variable {P : Program} {ρ : Env} {w : World}
theorem Kept.to_below {w w' : World} (h : Kept w (fun _ => False) w') : Below w.heap.size w w' := ⟨h.os, h.tape, h.output, h.size, fun i hi => h.block i hi fun e => e⟩
theorem heap_nil (ρ : Env) (w : World) (M : Nat → Prop) (β : Bm) : Heap ρ w M β .nil w :=
  ⟨fun k b h => absurd (Hp.at_lt h) (Nat.not_lt_zero k), fun j k b b' h => absurd (Hp.at_lt h) (Nat.not_lt_zero j), fun k b h => absurd (Hp.at_lt h) (Nat.not_lt_zero k), fun k b h => absurd (Hp.at_lt h) (Nat.not_lt_zero k), Kept.refl w M, fun k b h => absurd (Hp.at_lt h) (Nat.not_lt_zero k)⟩

theorem sums_none (P : Program) (ρ : Env) (w0 : World) (M : Nat → Prop) : SumsOk P ρ w0 M (fun _ _ => none) := fun _ _ _ h => by cases h
theorem calls_pure {okF : FuncId → Bool} {sums : Sums} {keep : FuncId → Nat → List Nat} {fuel n : Nat} (hm : P.follows .mixedOrders = true) (hok : ∀ f, okF f = true → ∀ as w, (callFunc f as).run P w = .ok (.enter f as) w)
    {f : FuncId} {args : List SV} (hsum : SumsOk P ρ w (fun _ => False) sums) (hargs : SV.oks ρ 0 args) {R : Value → Prop} (h : (callF P [] okF sums keep fuel n f args .nil []).holds ρ fun o => o.v.flat = true ∧ R (o.v.ev ρ β0)) :
    Calls P f (SV.evs ρ β0 args).toArray w fun e w' => ∃ v, e = .returned v ∧ R v ∧ Below w.heap.size w w' :=
  (callF_run (gl := []) hm hok hsum n f args .nil [] β0 w (fun v w' => R v ∧ Below w.heap.size w w') (heap_nil ..) (fun _ h => by cases h) hargs (fun _ h => by cases h)
    (T.holds_mono (fun o ho β' w' _ _ _ hh _ _ => ⟨by rw [SV.ev_flat β' β0 _ ho.1]; exact ho.2, hh.kept.to_below⟩) h)).2
/-! ### Tables: variables of the program that are only read -/
abbrev Tabs := List (Nat × List Value)
def tabBox : Tabs → Nat → Box
  | [], _ => ⟨false, .gone⟩
  | p :: l, k => match k with
    | 0 => ⟨false, .ro (p.2.map ofLeaf)⟩
    | k + 1 => tabBox l k
def tabHp (l : Tabs) : Hp := ⟨l.length, tabBox l⟩
def tabGl : Tabs → Nat → Gl
  | [], _ => []
  | p :: l, k => (p.1, k) :: tabGl l (k + 1)
def tabB (l : Tabs) : Bm := fun k => ((l.map (·.1)).getD k 0, 0)
/-- The tables lie as they are listed. -/
def TabsIn (l : Tabs) (w : World) : Prop := ∀ p ∈ l, ∀ (i : Nat) (v : Value), p.2[i]? = some v → w.cell? ⟨p.1, i, none⟩ = some v
theorem tabBox_get : ∀ {l : Tabs} {k : Nat}, k < l.length → ∃ p, l[k]? = some p ∧ tabBox l k = ⟨false, .ro (p.2.map ofLeaf)⟩
  | [], k, h => by simp at h
  | p :: l, 0, h => ⟨p, rfl, rfl⟩
  | p :: l, k + 1, h => by
    obtain ⟨q, h1, h2⟩ := tabBox_get (l := l) (k := k) (by simpa using h)
    exact ⟨q, by simpa using h1, h2⟩
theorem tab_heap {l : Tabs} (hd : (l.map (·.1)).Nodup) {w : World} (h : TabsIn l w) (M : Nat → Prop) (ρ : Env) : Heap ρ w M (tabB l) (tabHp l) w := by
  have key : ∀ (k : Nat) (b : Box), (tabHp l).at k = some b → ∃ p, l[k]? = some p ∧ b = ⟨false, .ro (p.2.map ofLeaf)⟩ ∧ (tabB l k).1 = p.1 := fun k b hb => by
    obtain ⟨hlt, rfl⟩ := Hp.at_some.1 hb
    obtain ⟨p, h1, h2⟩ := tabBox_get hlt
    exact ⟨p, h1, h2, by simp [tabB, h1]⟩
  have hev : ∀ (β : Bm) (vs : List Value), SV.evs ρ β (vs.map ofLeaf) = vs := fun β vs => by
    rw [SV.evs_map, List.map_map]
    have : (SV.ev ρ β ∘ ofLeaf) = id := funext fun v => ofLeaf_ev ρ β v
    rw [this, List.map_id]
  refine ⟨fun k b hb => ?_, fun j k b b' hj hk _ _ he => ?_, fun k b hb hr => ?_, fun k b hb => ?_, Kept.refl w M, fun k b hb ha => ?_⟩
  · obtain ⟨p, h1, rfl, h3⟩ := key k b hb
    intro i v hv
    rw [hev] at hv
    rw [h3]
    exact h p (List.mem_of_getElem? h1) i v hv
  · obtain ⟨p, h1, _, h3⟩ := key j b hj
    obtain ⟨q, g1, _, g3⟩ := key k b' hk
    have hpq : p.1 = q.1 := by rw [← h3, ← g3, he]
    have hjl : j < (l.map (·.1)).length := by simpa using (List.getElem?_eq_some_iff.1 h1).1
    have hkl : k < (l.map (·.1)).length := by simpa using (List.getElem?_eq_some_iff.1 g1).1
    refine (List.getElem_inj (h₀ := hjl) (h₁ := hkl) hd).1 ?_
    have e1 : (l.map (·.1))[j]? = some p.1 := by rw [List.getElem?_map, h1]; rfl
    have e2 : (l.map (·.1))[k]? = some q.1 := by rw [List.getElem?_map, g1]; rfl
    rw [List.getElem?_eq_getElem hjl] at e1
    rw [List.getElem?_eq_getElem hkl] at e2
    exact (Option.some.inj e1).trans (hpq.trans (Option.some.inj e2).symm)
  · obtain ⟨p, _, rfl, _⟩ := key k b hb
    cases hr
  · obtain ⟨p, _, rfl, _⟩ := key k b hb
    show SV.oks ρ _ (p.2.map ofLeaf)
    rw [SV.oks_mem]
    intro s hs
    obtain ⟨v, _, rfl⟩ := List.mem_map.1 hs
    exact ofLeaf_ok ρ _ v
  · obtain ⟨p, _, rfl, _⟩ := key k b hb
    cases ha
theorem tab_gl : ∀ {l : Tabs} {k : Nat} {β : Bm} {n : Nat}, (∀ j p, l[j]? = some p → (β (k + j)).1 = p.1) → k + l.length ≤ n → ∀ p ∈ tabGl l k, (β p.2).1 = p.1 ∧ p.2 < n
  | [], _, _, _, _, _, p, h => by cases h
  | q :: l, k, β, n, hb, hn, p, h => by
    rcases List.mem_cons.1 h with rfl | h
    · have := hb 0 q rfl
      simp only [List.length_cons] at hn
      exact ⟨by simpa using this, by simp only; omega⟩
    · refine tab_gl (l := l) (k := k + 1) (fun j p hj => ?_) (by simp at hn; omega) p h
      have := hb (j + 1) p (by simpa using hj)
      rwa [show k + 1 + j = k + (j + 1) by omega]
theorem calls_tab {okF : FuncId → Bool} {sums : Sums} {keep : FuncId → Nat → List Nat} {fuel n : Nat} (tabs : Tabs) (hd : (tabs.map (·.1)).Nodup) (ht : TabsIn tabs w) (hm : P.follows .mixedOrders = true) (hok : ∀ f, okF f = true → ∀ as w, (callFunc f as).run P w = .ok (.enter f as) w)
    {f : FuncId} {args : List SV} (hsum : SumsOk P ρ w (fun _ => False) sums) (hargs : SV.oks ρ 0 args) (hfl : SV.flats args = true) {R : Value → Prop} (h : (callF P (tabGl tabs 0) okF sums keep fuel n f args (tabHp tabs) []).holds ρ fun o => o.v.flat = true ∧ R (o.v.ev ρ β0)) :
    Calls P f (SV.evs ρ β0 args).toArray w fun e w' => ∃ v, e = .returned v ∧ R v ∧ Below w.heap.size w w' := by
  rw [SV.evs_flat β0 (tabB tabs) args hfl]
  exact (callF_run (gl := tabGl tabs 0) hm hok hsum n f args (tabHp tabs) [] (tabB tabs) w (fun v w' => R v ∧ Below w.heap.size w w') (tab_heap hd ht _ ρ) (fun _ h => by cases h) (SV.oks_mono (Nat.zero_le _) _ hargs)
    (tab_gl (fun j p hj => by simp [tabB, hj]) (by simp [tabHp]))
    (T.holds_mono (fun o ho β' w' _ _ _ hh _ _ => ⟨by rw [SV.ev_flat β' β0 _ ho.1]; exact ho.2, hh.kept.to_below⟩) h)).2
theorem pays_tab {okF : FuncId → Bool} {sums : Sums} {keep : FuncId → Nat → List Nat} {fuel n : Nat} (tabs : Tabs) (hd : (tabs.map (·.1)).Nodup) (ht : TabsIn tabs w) (hm : P.follows .mixedOrders = true) (hok : ∀ f, okF f = true → ∀ as w, (callFunc f as).run P w = .ok (.enter f as) w)
    {f : FuncId} {args : List SV} (hsum : SumsOk P ρ w (fun _ => False) sums) (hargs : SV.oks ρ 0 args) (hfl : SV.flats args = true) (h : (callF P (tabGl tabs 0) okF sums keep fuel n f args (tabHp tabs) []).holds ρ fun o => isTrue o = true) :
    Calls P f (SV.evs ρ β0 args).toArray w fun e w' => e = .returned (.bool true) ∧ Below w.heap.size w w' :=
  (calls_tab (R := fun v => v = .bool true) tabs hd ht hm hok hsum hargs hfl (T.holds_mono (fun o ho => by
    unfold isTrue at ho
    split at ho
    · rename_i n hv
      rw [hv]
      have hn : n ≠ 0 := by simpa using ho
      exact ⟨rfl, by simp [SV.ev, E.ev, hn]⟩
    · cases ho) h)).mono fun e w' ⟨v, he, hv, hb⟩ => ⟨by rw [he, hv], hb⟩
/-- A law all of whose ways end with true. -/
theorem pays_pure {okF : FuncId → Bool} {sums : Sums} {keep : FuncId → Nat → List Nat} {fuel n : Nat} (hm : P.follows .mixedOrders = true) (hok : ∀ f, okF f = true → ∀ as w, (callFunc f as).run P w = .ok (.enter f as) w)
    {f : FuncId} {args : List SV} (hsum : SumsOk P ρ w (fun _ => False) sums) (hargs : SV.oks ρ 0 args) (h : (callF P [] okF sums keep fuel n f args .nil []).all isTrue = true) :
    Calls P f (SV.evs ρ β0 args).toArray w fun e w' => e = .returned (.bool true) ∧ Below w.heap.size w w' :=
  (calls_pure (R := fun v => v = .bool true) hm hok hsum hargs (T.holds_mono (fun o ho => by
    unfold isTrue at ho
    split at ho
    · rename_i n hv
      rw [hv]
      have hn : n ≠ 0 := by simpa using ho
      exact ⟨rfl, by simp [SV.ev, E.ev, hn]⟩
    · cases ho) (T.all_holds h))).mono fun e w' ⟨v, he, hv, hb⟩ => ⟨by rw [he, hv], hb⟩
end

/-! ### Names for functions that have been proved -/
inductive Sh where
  | one (l : Lk) | agg (l : List Lk)
def Lk.take : Lk → SV → Option E
  | .int k, .int j e => if kTag k = kTag j then some e else none
  | .bool, .bool e => some e
  | _, _ => none
def takes : List Lk → List SV → Option (List E)
  | [], [] => some []
  | l :: ls, s :: ss => match l.take s, takes ls ss with
    | some e, some es => some (e :: es)
    | _, _ => none
  | _, _ => none
def Sh.take : Sh → SV → Option (List E)
  | .one l, s => (l.take s).map fun e => [e]
  | .agg ls, .agg ss => takes ls ss
  | _, _ => none
def shTakes : List Sh → List SV → Option (List E)
  | [], [] => some []
  | h :: hs, s :: ss => match h.take s, shTakes hs ss with
    | some e, some es => some (e ++ es)
    | _, _ => none
  | _, _ => none
def vals : List Lk → List Int → List Value
  | [], _ => []
  | l :: ls, ns => l.val (ns.headD 0) :: vals ls ns.tail
def fits : List Lk → List Int → Prop
  | [], _ => True
  | l :: ls, ns => l.fits (ns.headD 0) ∧ fits ls ns.tail
def Sh.size : Sh → Nat
  | .one _ => 1
  | .agg l => l.length
def Sh.val : Sh → List Int → Value
  | .one l, ns => l.val (ns.headD 0)
  | .agg ls, ns => .agg (vals ls ns).toArray
def Sh.fits : Sh → List Int → Prop
  | .one l, ns => l.fits (ns.headD 0)
  | .agg ls, ns => SX.fits ls ns
def shVals : List Sh → List Int → List Value
  | [], _ => []
  | h :: hs, ns => h.val ns :: shVals hs (ns.drop h.size)
def shFits : List Sh → List Int → Prop
  | [], _ => True
  | h :: hs, ns => h.fits ns ∧ shFits hs (ns.drop h.size)
section
variable {ρ : Env} {β : Bm} {n : Nat}
theorem evs_len : ∀ l : List E, (E.evs ρ l).length = l.length
  | [] => rfl
  | e :: l => by simp [E.evs, evs_len l]
theorem evs_app : ∀ l m : List E, E.evs ρ (l ++ m) = E.evs ρ l ++ E.evs ρ m
  | [], m => rfl
  | e :: l, m => by simp [E.evs, evs_app l m]
theorem Lk.take_spec {l : Lk} {s : SV} {e : E} (hs : s.ok ρ n) (h : l.take s = some e) : s.ev ρ β = l.val (e.ev ρ) ∧ l.fits (e.ev ρ) := by
  unfold Lk.take at h
  split at h
  · split at h
    · rename_i hk
      obtain rfl := kTag_inj hk
      obtain rfl := Option.some.inj h
      exact ⟨rfl, hs⟩
    · cases h
  · obtain rfl := Option.some.inj h
    exact ⟨rfl, trivial⟩
  · cases h
theorem takes_spec : ∀ {ls : List Lk} {ss : List SV} {es : List E} (ns : List Int), SV.oks ρ n ss → takes ls ss = some es → SV.evs ρ β ss = vals ls (E.evs ρ es ++ ns) ∧ SX.fits ls (E.evs ρ es ++ ns) ∧ es.length = ls.length
  | [], [], es, ns, _, h => by obtain rfl := Option.some.inj h; exact ⟨rfl, trivial, rfl⟩
  | [], _ :: _, es, ns, _, h => by cases h
  | _ :: _, [], es, ns, _, h => by cases h
  | l :: ls, s :: ss, es, ns, hs, h => by
    unfold takes at h
    split at h
    · rename_i e es' he hes
      obtain rfl := Option.some.inj h
      obtain ⟨a1, a2⟩ := Lk.take_spec (β := β) hs.1 he
      obtain ⟨b1, b2, b3⟩ := takes_spec ns hs.2 hes
      exact ⟨by simp [SV.evs, vals, E.evs, a1, b1], ⟨a2, b2⟩, by simp [b3]⟩
    · cases h
theorem Sh.take_spec {h : Sh} {s : SV} {es : List E} (ns : List Int) (hs : s.ok ρ n) (ht : h.take s = some es) : s.ev ρ β = h.val (E.evs ρ es ++ ns) ∧ h.fits (E.evs ρ es ++ ns) ∧ es.length = h.size := by
  unfold Sh.take at ht
  split at ht
  · rename_i l
    cases he : l.take s with
    | none => simp [he] at ht
    | some e =>
      simp only [he, Option.map_some, Option.some.injEq] at ht
      subst ht
      obtain ⟨a1, a2⟩ := Lk.take_spec (β := β) hs he
      exact ⟨a1, a2, rfl⟩
  · rename_i ls ss
    obtain ⟨b1, b2, b3⟩ := takes_spec (β := β) ns hs ht
    exact ⟨by simp only [SV.ev, Sh.val, b1], b2, b3⟩
  · cases ht
theorem shTakes_spec : ∀ {hs : List Sh} {ss : List SV} {es : List E}, SV.oks ρ n ss → shTakes hs ss = some es → SV.evs ρ β ss = shVals hs (E.evs ρ es) ∧ shFits hs (E.evs ρ es)
  | [], [], es, _, h => ⟨rfl, trivial⟩
  | [], _ :: _, es, _, h => by cases h
  | _ :: _, [], es, _, h => by cases h
  | h :: hs, s :: ss, es, hk, ht => by
    unfold shTakes at ht
    split at ht
    · rename_i e es' he hes
      obtain rfl := Option.some.inj ht
      obtain ⟨a1, a2, a3⟩ := Sh.take_spec (β := β) (E.evs ρ es') hk.1 he
      obtain ⟨b1, b2⟩ := shTakes_spec hk.2 hes
      have hd : (E.evs ρ (e ++ es')).drop h.size = E.evs ρ es' := by rw [evs_app, ← a3, ← evs_len (ρ := ρ) e, List.drop_left]
      refine ⟨?_, ?_⟩
      · simp only [SV.evs, shVals]
        rw [hd, b1, a1, evs_app]
      · simp only [shFits, hd]
        exact ⟨by rw [evs_app]; exact a2, b2⟩
    · cases ht
end
/-- What a function returns: its name's values, number j and on. -/
def Lk.app (l : Lk) (f j : Nat) (es : List E) : SV :=
  match l with
  | .int k => .int k (.app f j es)
  | .bool => .bool (.app f j es)
def apps (f : Nat) (es : List E) : List Lk → Nat → List SV
  | [], _ => []
  | l :: ls, j => l.app f j es :: apps f es ls (j + 1)
def Sh.app (f : Nat) (es : List E) (h : Sh) (j : Nat) : SV :=
  match h with
  | .one l => l.app f j es
  | .agg ls => .agg (apps f es ls j)
def shApps (f : Nat) (es : List E) : List Sh → Nat → List SV
  | [], _ => []
  | h :: hs, j => h.app f es j :: shApps f es hs (j + h.size)
/-- A function that has been proved: its number, its name in expressions (two functions may have one), its parameters, its results. -/
structure Sm where
  f : FuncId
  name : Nat
  ps : List Sh
  rs : List Sh
/-- Numbers alone: such a call is walked. -/
def allLit : List E → Bool
  | [] => true
  | .lit _ :: l => allLit l
  | _ => false
def sumsOf (l : List Sm) : Sums := fun f args =>
  match l with
  | [] => none
  | s :: l => if s.f = f then (shTakes s.ps args).bind fun es => if allLit es then none else some (packS (shApps s.name es s.rs 0)) else sumsOf l f args
/-- The values that name f stands for at arguments. -/
def fnVals (F : Nat → List Int → Int) (ns : List Int) (m j : Nat) : List Int := (List.range' j m).map fun i => F i ns
def shSize (l : List Sh) : Nat := (l.map Sh.size).foldr (· + ·) 0
def packV : List Value → Value
  | [v] => v
  | vs => .tuple vs.toArray
/-- The function f returns what its name stands for. -/
def SmOk (P : Program) (ρ : Env) (w0 : World) (M : Nat → Prop) (s : Sm) : Prop := ∀ ns : List Int, shFits s.ps ns →
  shFits s.rs (fnVals (ρ.fn s.name) ns (shSize s.rs) 0) ∧ ∀ w, Kept w0 M w → Calls P s.f (shVals s.ps ns).toArray w fun e w' => e = .returned (packV (shVals s.rs (fnVals (ρ.fn s.name) ns (shSize s.rs) 0))) ∧ Below w.heap.size w w'
section
variable {ρ : Env} {β : Bm} {n : Nat}
theorem Lk.app_spec (l : Lk) (f j : Nat) (es : List E) (hf : l.fits (ρ.fn f j (E.evs ρ es))) : (l.app f j es).ev ρ β = l.val (ρ.fn f j (E.evs ρ es)) ∧ (l.app f j es).ok ρ n := by
  cases l
  · exact ⟨rfl, hf⟩
  · exact ⟨rfl, trivial⟩
theorem apps_spec (f : Nat) (es : List E) : ∀ (ls : List Lk) (j m : Nat), ls.length ≤ m → SX.fits ls (fnVals (ρ.fn f) (E.evs ρ es) m j) → SV.evs ρ β (apps f es ls j) = vals ls (fnVals (ρ.fn f) (E.evs ρ es) m j) ∧ SV.oks ρ n (apps f es ls j)
  | [], j, m, _, _ => ⟨rfl, trivial⟩
  | l :: ls, j, 0, h, _ => by simp at h
  | l :: ls, j, m + 1, h, hf => by
    have hfv : fnVals (ρ.fn f) (E.evs ρ es) (m + 1) j = ρ.fn f j (E.evs ρ es) :: fnVals (ρ.fn f) (E.evs ρ es) m (j + 1) := by simp [fnVals, List.range'_succ]
    rw [hfv] at hf ⊢
    obtain ⟨a1, a2⟩ := Lk.app_spec (β := β) (n := n) l f j es hf.1
    obtain ⟨b1, b2⟩ := apps_spec f es ls (j + 1) m (by simpa using h) hf.2
    exact ⟨by simp only [apps, SV.evs, vals, a1, b1, List.headD_cons, List.tail_cons], a2, b2⟩
theorem fnVals_drop (F : Nat → List Int → Int) (ns : List Int) (m j k : Nat) : (fnVals F ns m j).drop k = fnVals F ns (m - k) (j + k) := by
  unfold fnVals
  apply List.ext_getElem?
  intro i
  simp only [List.getElem?_drop, List.getElem?_map]
  congr 1
  by_cases h : k + i < m
  · rw [List.getElem?_range' (by omega), List.getElem?_range' (by omega)]; simp; omega
  · rw [List.getElem?_eq_none (by simp; omega), List.getElem?_eq_none (by simp; omega)]
theorem shApps_spec (f : Nat) (es : List E) : ∀ (hs : List Sh) (j m : Nat), shSize hs ≤ m → shFits hs (fnVals (ρ.fn f) (E.evs ρ es) m j) → SV.evs ρ β (shApps f es hs j) = shVals hs (fnVals (ρ.fn f) (E.evs ρ es) m j) ∧ SV.oks ρ n (shApps f es hs j)
  | [], j, m, _, _ => ⟨rfl, trivial⟩
  | h :: hs, j, m, hm, hf => by
    simp only [shSize, List.map_cons, List.foldr_cons] at hm
    have hd := fnVals_drop (ρ.fn f) (E.evs ρ es) m j h.size
    simp only [shFits, hd] at hf
    obtain ⟨b1, b2⟩ := shApps_spec f es hs (j + h.size) (m - h.size) (by unfold shSize; omega) hf.2
    have key : (h.app f es j).ev ρ β = h.val (fnVals (ρ.fn f) (E.evs ρ es) m j) ∧ (h.app f es j).ok ρ n := by
      cases h with
      | one l =>
        simp only [Sh.size] at hm
        obtain ⟨m', rfl⟩ : ∃ m', m = m' + 1 := ⟨m - 1, by omega⟩
        have hfv : fnVals (ρ.fn f) (E.evs ρ es) (m' + 1) j = ρ.fn f j (E.evs ρ es) :: fnVals (ρ.fn f) (E.evs ρ es) m' (j + 1) := by simp [fnVals, List.range'_succ]
        have h1 := hf.1
        simp only [Sh.fits, hfv, List.headD_cons] at h1
        simpa only [Sh.app, Sh.val, hfv, List.headD_cons] using Lk.app_spec (β := β) (n := n) l f j es h1
      | agg ls =>
        simp only [Sh.size] at hm
        obtain ⟨a1, a2⟩ := apps_spec (β := β) (n := n) f es ls j m (by omega) hf.1
        exact ⟨by simp only [Sh.app, SV.ev, Sh.val, a1], a2⟩
    refine ⟨?_, key.2, b2⟩
    simp only [shApps, SV.evs, shVals, hd, key.1, b1]
theorem packS_spec (l : List SV) (h : SV.oks ρ n l) : (packS l).ev ρ β = packV (SV.evs ρ β l) ∧ (packS l).ok ρ n := by
  match l, h with
  | [], _ => exact ⟨rfl, trivial⟩
  | [v], h => exact ⟨rfl, h.1⟩
  | u :: v :: l, h => exact ⟨rfl, h⟩
theorem sumsOf_ok {P : Program} {ρ : Env} {w0 : World} {M : Nat → Prop} : ∀ {l : List Sm}, (∀ s ∈ l, SmOk P ρ w0 M s) → SumsOk P ρ w0 M (sumsOf l)
  | [], _ => fun f args v h => by cases h
  | s :: l, hl => fun f args v h n β ha => by
    unfold sumsOf at h
    split at h
    · rename_i hf
      subst hf
      cases ht : shTakes s.ps args with
      | none => simp [ht] at h
      | some es =>
        simp only [ht, Option.bind_some] at h
        split at h
        · cases h
        obtain rfl := Option.some.inj h
        obtain ⟨a1, a2⟩ := shTakes_spec (β := β) ha ht
        obtain ⟨f1, f2⟩ := hl s (List.mem_cons_self ..) _ a2
        obtain ⟨b1, b2⟩ := shApps_spec (β := β) (n := n) s.name es s.rs 0 _ (Nat.le_refl _) f1
        obtain ⟨c1, c2⟩ := packS_spec (β := β) _ b2
        refine ⟨c2, fun w hw => ?_⟩
        rw [a1, c1, b1]
        exact f2 w hw
    · exact sumsOf_ok (fun s hs => hl s (List.mem_cons_of_mem _ hs)) f args v h n β ha
end
/-- The names, and 'awake', which returns true. -/
def sumsA (aw : FuncId) (l : List Sm) : Sums := fun f args =>
  if f = aw then (match args with
    | [] => some (.bool (.lit 1))
    | _ => none) else sumsOf l f args
theorem sumsA_ok {P : Program} {ρ : Env} {w0 : World} {M : Nat → Prop} {aw : FuncId} {l : List Sm} (ha : ∀ w, Kept w0 M w → Calls P aw #[] w fun e w' => e = .returned (.bool true) ∧ Below w.heap.size w w') (hl : ∀ s ∈ l, SmOk P ρ w0 M s) : SumsOk P ρ w0 M (sumsA aw l) :=
  fun f args v h n β hargs => by
    unfold sumsA at h
    split at h
    · rename_i hf
      subst hf
      split at h
      · obtain rfl := Option.some.inj h
        refine ⟨trivial, fun w hw => ?_⟩
        simpa [SV.ev, E.ev, SV.evs] using ha w hw
      · cases h
    · exact sumsOf_ok hl f args v h n β hargs
/-- The variables that stand for the parameters. -/
def varLk (l : Lk) (i : Nat) : SV :=
  match l with
  | .int k => .int k (.var i)
  | .bool => .bool (.var i)
def varLks : List Lk → Nat → List SV
  | [], _ => []
  | l :: ls, i => varLk l i :: varLks ls (i + 1)
def varSh (h : Sh) (i : Nat) : SV :=
  match h with
  | .one l => varLk l i
  | .agg ls => .agg (varLks ls i)
def varShs : List Sh → Nat → List SV
  | [], _ => []
  | h :: hs, i => varSh h i :: varShs hs (i + h.size)
def envOf (F : Nat → Nat → List Int → Int) (ns : List Int) : Env := ⟨fun i => ns.getD i 0, fun _ _ _ => 0, F⟩
section
variable {F : Nat → Nat → List Int → Int} {ns : List Int} {β : Bm} {n : Nat}
theorem headD_drop (ns : List Int) (i : Nat) : (ns.drop i).headD 0 = ns.getD i 0 := by
  simp [List.head?_drop]
theorem varLk_spec {l : Lk} {i : Nat} (h : l.fits (ns.getD i 0)) : (varLk l i).ev (envOf F ns) β = l.val (ns.getD i 0) ∧ (varLk l i).ok (envOf F ns) n ∧ (varLk l i).flat = true := by
  cases l
  · exact ⟨rfl, h, rfl⟩
  · exact ⟨rfl, trivial, rfl⟩
theorem varLks_spec : ∀ {ls : List Lk} {i : Nat}, SX.fits ls (ns.drop i) → SV.evs (envOf F ns) β (varLks ls i) = vals ls (ns.drop i) ∧ SV.oks (envOf F ns) n (varLks ls i) ∧ SV.flats (varLks ls i) = true
  | [], _, _ => ⟨rfl, trivial, rfl⟩
  | l :: ls, i, h => by
    simp only [SX.fits, headD_drop, List.tail_drop] at h
    obtain ⟨a1, a2, a3⟩ := varLk_spec (F := F) (β := β) (n := n) h.1
    obtain ⟨b1, b2, b3⟩ := varLks_spec (ls := ls) (i := i + 1) h.2
    refine ⟨?_, ⟨a2, b2⟩, by simp [varLks, SV.flats, a3, b3]⟩
    simp only [varLks, SV.evs, vals, a1, b1, headD_drop, List.tail_drop]
theorem varShs_spec : ∀ {hs : List Sh} {i : Nat}, shFits hs (ns.drop i) → SV.evs (envOf F ns) β (varShs hs i) = shVals hs (ns.drop i) ∧ SV.oks (envOf F ns) n (varShs hs i) ∧ SV.flats (varShs hs i) = true
  | [], _, _ => ⟨rfl, trivial, rfl⟩
  | h :: hs, i, hf => by
    simp only [shFits, List.drop_drop] at hf
    obtain ⟨b1, b2, b3⟩ := varShs_spec (hs := hs) (i := i + h.size) hf.2
    have key : (varSh h i).ev (envOf F ns) β = h.val (ns.drop i) ∧ (varSh h i).ok (envOf F ns) n ∧ (varSh h i).flat = true := by
      cases h with
      | one l =>
        have h1 := hf.1
        simp only [Sh.fits, headD_drop] at h1
        simpa only [varSh, Sh.val, headD_drop] using varLk_spec (F := F) (β := β) (n := n) h1
      | agg ls =>
        obtain ⟨a1, a2, a3⟩ := varLks_spec (F := F) (β := β) (n := n) (i := i) hf.1
        exact ⟨by simp only [varSh, SV.ev, Sh.val, a1], a2, a3⟩
    refine ⟨?_, ⟨key.2.1, b2⟩, by simp [varShs, SV.flats, key.2.2, b3]⟩
    simp only [varShs, SV.evs, shVals, key.1, b1, List.drop_drop]
end
/-- A function that is proved by its tree: at all arguments in range it returns what its name stands for. -/
theorem smOk_of {P : Program} {F : Nat → Nat → List Int → Int} {w0 : World} {M : Nat → Prop} {s : Sm} {okF : FuncId → Bool} {sums : Sums} {keep : FuncId → Nat → List Nat} {fuel n : Nat} (tabs : Tabs) (hd : (tabs.map (·.1)).Nodup) (ht : ∀ w, Kept w0 M w → TabsIn tabs w)
    (hm : P.follows .mixedOrders = true) (hok : ∀ f, okF f = true → ∀ as w, (callFunc f as).run P w = .ok (.enter f as) w)
    (hsum : ∀ (ns : List Int) (w : World), Kept w0 M w → SumsOk P (envOf F ns) w (fun _ => False) sums) (v : List Int)
    (h : ∀ ns : List Int, shFits s.ps ns → shFits s.rs (fnVals (F s.name) ns (shSize s.rs) 0) ∧
      (callF P (tabGl tabs 0) okF sums keep fuel n s.f (varShs s.ps 0) (tabHp tabs) []).holds (envOf F ns) fun o => o.v.flat = true ∧ o.v.ev (envOf F ns) β0 = packV (shVals s.rs (fnVals (F s.name) ns (shSize s.rs) 0))) :
    SmOk P (envOf F v) w0 M s := fun ns hns => by
  obtain ⟨h1, h2⟩ := h ns hns
  refine ⟨h1, fun w hw => ?_⟩
  obtain ⟨e1, e2, e3⟩ := varShs_spec (F := F) (β := β0) (n := 0) (hs := s.ps) (i := 0) hns
  have := calls_tab (R := fun x => x = packV (shVals s.rs (fnVals (F s.name) ns (shSize s.rs) 0))) tabs hd (ht w hw) hm hok (hsum ns w hw) e2 e3 h2
  rw [e1, List.drop_zero] at this
  exact this.mono fun e w' ⟨x, he, hx, hb⟩ => ⟨by rw [he, hx]; rfl, hb⟩
theorem TabsIn.kept {l : Tabs} {w0 w : World} (h : TabsIn l w0) (hk : Kept w0 (fun _ => False) w) : TabsIn l w := fun p hp i v hv => by
  have h1 := h p hp i v hv
  have hlt := block_lt_of_cell h1
  have := hk.block _ hlt (fun e => e)
  unfold World.cell? at h1 ⊢
  rw [this]
  exact h1
theorem tabs_nil (w : World) : TabsIn [] w := fun p h => by cases h
theorem T.holds_map {α γ : Type} {ρ : Env} {f : α → γ} {Q : γ → Prop} {t : T α} : (t.map f).holds ρ Q ↔ t.holds ρ fun a => Q (f a) := by
  unfold T.map
  rw [T.holds_bind]
  exact Iff.rfl
end Go.Proofs.YthbfjnmdjehljaaDoor.SX
