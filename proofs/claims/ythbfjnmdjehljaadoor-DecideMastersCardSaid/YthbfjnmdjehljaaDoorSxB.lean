/- Composite values, slice expressions, len, cap, min, max; and all pure operations in one. Of no program. -/
import Derived.Test.YthbfjnmdjehljaaDoorSxI
import Derived.Laws.Tables
namespace Go.Proofs.YthbfjnmdjehljaaDoor.SX
open Go
set_option linter.unusedVariables false
set_option linter.unusedSimpArgs false

/-- A value of one cell. -/
def SV.one : SV → Bool
  | .raw v => v.oneCell'
  | .agg _ | .tuple _ => false
  | _ => true
def SV.cells? : SV → Option (List SV)
  | .agg l => some l
  | s => if s.one then some [s] else none
theorem SV.one_ev (ρ : Env) (β : Bm) {s : SV} (h : s.one = true) : (s.ev ρ β).oneCell' = true := by
  cases s <;> first | rfl | (simp [SV.one] at h; done) | exact h
theorem SV.cells_spec {s : SV} {l : List SV} (h : s.cells? = some l) (ρ : Env) (β : Bm) : (s.ev ρ β).cells = (SV.evs ρ β l).toArray ∧ ∀ n, s.ok ρ n → SV.oks ρ n l := by
  unfold SV.cells? at h
  split at h
  · obtain rfl := Option.some.inj h
    exact ⟨rfl, fun n hn => hn⟩
  · split at h
    · rename_i ho
      obtain rfl := Option.some.inj h
      refine ⟨?_, fun n hn => ⟨hn, trivial⟩⟩
      have := SV.one_ev ρ β ho
      simp only [SV.evs]
      generalize s.ev ρ β = v at *
      cases v <;> first | rfl | (simp [Value.oneCell'] at this; done)
    · cases h

/-- Cells with others laid over them from off on. -/
def splice (l m : List SV) (off : Nat) : List SV := l.take off ++ m ++ l.drop (off + m.length)
def spliceV (l m : List Value) (off : Nat) : List Value := l.take off ++ m ++ l.drop (off + m.length)
theorem evs_splice (ρ : Env) (β : Bm) (l m : List SV) (off : Nat) : SV.evs ρ β (splice l m off) = spliceV (SV.evs ρ β l) (SV.evs ρ β m) off := by
  simp [splice, spliceV, SV.evs_map, List.map_take, List.map_drop]
theorem oks_splice {ρ : Env} {n : Nat} {l m : List SV} (hl : SV.oks ρ n l) (hm : SV.oks ρ n m) (off : Nat) : SV.oks ρ n (splice l m off) := by
  rw [SV.oks_mem] at *
  intro s hs
  rcases List.mem_append.1 hs with h | h
  · rcases List.mem_append.1 h with h | h
    · exact hl s (List.mem_of_mem_take h)
    · exact hm s h
  · exact hl s (List.mem_of_mem_drop h)
theorem length_splice {l m : List SV} {off : Nat} (h : off + m.length ≤ l.length) : (splice l m off).length = l.length := by
  simp [splice]; omega
theorem spliceV_cons (l : List Value) (v : Value) (m : List Value) (off : Nat) (h : off + (v :: m).length ≤ l.length) : spliceV l (v :: m) off = spliceV (l.set off v) m (off + 1) := by
  have h1 : off < l.length := by simp at h; omega
  unfold spliceV
  apply List.ext_getElem?
  intro i
  simp only [List.length_cons, List.getElem?_append, List.length_append, List.length_take, List.length_set, List.getElem?_take, List.getElem?_set, List.getElem?_drop]
  simp only [List.length_cons] at h
  rw [show min off l.length = off by omega, show min (off + 1) l.length = off + 1 by omega]
  by_cases c1 : i < off
  · simp [c1, show i < off + (m.length + 1) by omega, show i < off + 1 + m.length by omega, show i < off + 1 by omega, show off ≠ i by omega]
  · by_cases c2 : i = off
    · subst c2
      simp [h1, show i < i + (m.length + 1) by omega, show i < i + 1 + m.length by omega]
    · by_cases c3 : i < off + 1 + m.length
      · simp [c1, c3, show i < off + (m.length + 1) by omega, show ¬ i < off + 1 by omega, show i - off = (i - (off + 1)) + 1 by omega]
      · simp [c1, c3, show ¬ i < off + (m.length + 1) by omega]
        rw [if_neg (by omega)]
        congr 1
        omega
theorem foldl_splice (off : Nat) : ∀ (m : List Value) (k : Nat) (a : Array Value), off + k + m.length ≤ a.size →
    ((m.zipIdx k).foldl (fun cs (p : Value × Nat) => cs.setIfInBounds (off + p.2) p.1) a) = (spliceV a.toList m (off + k)).toArray
  | [], k, a, h => by simp [spliceV]
  | v :: m, k, a, h => by
    simp only [List.zipIdx_cons, List.foldl_cons]
    rw [foldl_splice off m (k + 1) _ (by simp at h ⊢; omega)]
    rw [spliceV_cons _ _ _ _ (by simpa using h)]
    simp [Nat.add_assoc]

def fillS (place : Nat → Option (Nat × Nat)) : List SV → List (Nat × SV) → Option (List SV)
  | cells, [] => some cells
  | cells, (i, s) :: rest =>
    match place i, s.cells? with
    | some (off, size), some cs => if cs.length = size ∧ off + size ≤ cells.length then fillS place (splice cells cs off) rest else none
    | _, _ => none
theorem fillS_spec {place : Nat → Option (Nat × Nat)} {ρ : Env} {β : Bm} {n : Nat} : ∀ {parts : List (Nat × SV)} {cells r : List SV}, SV.oks ρ n cells → (∀ p ∈ parts, p.2.ok ρ n) → fillS place cells parts = some r →
    Instr.fill place (SV.evs ρ β cells).toArray (parts.map fun p => (p.1, p.2.ev ρ β)) = some (SV.evs ρ β r).toArray ∧ SV.oks ρ n r ∧ r.length = cells.length
  | [], cells, r, hc, _, h => by
    obtain rfl := Option.some.inj h
    exact ⟨rfl, hc, rfl⟩
  | (i, s) :: rest, cells, r, hc, hp, h => by
    unfold fillS at h
    split at h
    · rename_i off size cs hpl hcs
      split at h
      · rename_i hle
        obtain ⟨rfl, hle⟩ := hle
        obtain ⟨h1, h2⟩ := SV.cells_spec hcs ρ β
        have hcs' := h2 n (hp _ (List.mem_cons_self ..))
        obtain ⟨q1, q2, q3⟩ := fillS_spec (oks_splice hc hcs' off) (fun p hp' => hp p (List.mem_cons_of_mem _ hp')) h
        refine ⟨?_, q2, q3.trans (length_splice hle)⟩
        simp only [List.map_cons, Instr.fill, hpl, h1]
        have hs1 : (SV.evs ρ β cs).toArray.size = cs.length := by rw [SV.evs_map]; simp
        have hs2 : (SV.evs ρ β cells).toArray.size = cells.length := by rw [SV.evs_map]; simp
        rw [if_neg (by rw [hs1, hs2]; simp; omega)]
        rw [← q1, evs_splice]
        congr 1
        have := foldl_splice off (SV.evs ρ β cs) 0 (SV.evs ρ β cells).toArray (by rw [hs2, SV.evs_map]; simp; omega)
        rw [show ((SV.evs ρ β cs).toArray.zipIdx) = ((SV.evs ρ β cs).zipIdx 0).toArray by simp]
        rw [List.foldl_toArray]
        exact this
      · cases h
    · cases h
section
variable (P : Program)
def placesS : List Field → Option (List (Nat × Nat))
  | [] => some []
  | f :: fs => match szOf P f.type, placesS fs with
    | some z, some r => some ((f.offset, z) :: r)
    | _, _ => none
def zeroS (t : TypeId) : Option (List SV) :=
  match P.info? t with
  | some i => match i.zero with
    | some z => (ofValue z).cells?
    | none => none
  | none => none
def buildS (t : TypeId) (parts : List (Nat × SV)) : Option SV :=
  match P.underlying t, zeroS P t with
  | some (.struct fs), some z => match placesS P fs.toList with
    | some ps => (fillS (ps[·]?) z parts).map .agg
    | none => none
  | some (.array _ e), some z => match szOf P e with
    | some n => (fillS (fun i => some (i * n, n)) z parts).map .agg
    | none => none
  | _, _ => none
def boundS (s : Option SV) (d y : Nat) : Option Nat :=
  match s with
  | none => some d
  | some s => match natLit s with
    | some n => if n ≤ y then some n else none
    | none => none
def sliceS (t : TypeId) (x : SV) (lo hi mx : Option SV) : Option SV :=
  match mx with
  | some _ => none
  | none =>
    match P.underlying t, x with
    | some (.slice e), .slice b off len (some cap) => match boundS hi len cap, szOf P e with
      | some h, some z => match boundS lo 0 h with
        | some l => some (.slice b (if cap = l then off else off + l * z) (h - l) (some (cap - l)))
        | none => none
      | _, _ => none
    | some (.slice e), .raw (.slice none 0 0) => match boundS hi 0 0, szOf P e with
      | some h, some _ => match boundS lo 0 h with
        | some _ => some (.raw (.slice none 0 0))
        | none => none
      | _, _ => none
    | some (.array n e), .ptr b off => match boundS hi n n, szOf P e with
      | some h, some z => match boundS lo 0 h with
        | some l => some (.slice b (if n = l then off else off + l * z) (h - l) (some (n - l)))
        | none => none
      | _, _ => none
    | _, _ => none
def intLit (n : Nat) : Option SV := if inRange .i64 n then some (.int .i64 (.lit n)) else none
def builtinS (b : Builtin) (ts : Array TypeId) (args : List SV) : Option SV :=
  match b, args with
  | .len, [x] => match ts[0]? with
    | some t => match P.underlying t, x with
      | some (.slice _), .slice _ _ len _ => intLit len
      | some (.slice _), .raw (.slice _ len _) => intLit len
      | some (.array n _), _ => intLit n
      | _, _ => none
    | none => none
  | .cap, [x] => match ts[0]? with
    | some t => match P.underlying t, x with
      | some (.slice _), .slice _ _ _ (some c) => intLit c
      | _, _ => none
    | none => none
  | .min, [.int k a, .int j b] => if kTag k = kTag j then some (.int k (mk .min k a b)) else none
  | .max, [.int k a, .int j b] => if kTag k = kTag j then some (.int k (mk .max k a b)) else none
  | _, _ => none
end
section
variable {P : Program} {ρ : Env} {β : Bm} {w : World} {n : Nat}
theorem placesS_spec : ∀ {fs : List Field} {ps : List (Nat × Nat)}, placesS P fs = some ps → fs.mapM (fun f => (P.info? f.type).map fun i => (f.offset, i.size)) = some ps
  | [], ps, h => by obtain rfl := Option.some.inj h; rfl
  | f :: fs, ps, h => by
    unfold placesS at h
    split at h
    · rename_i z r hz hr
      obtain rfl := Option.some.inj h
      have := placesS_spec hr
      unfold szOf at hz
      cases hi : P.info? f.type with
      | none => simp [hi] at hz
      | some i => simp [hi] at hz; subst hz; simp [List.mapM_cons, hi, this]
    · cases h
theorem zeroS_spec {t : TypeId} {z : List SV} (h : zeroS P t = some z) : (∃ (i : TypeInfo) (v : Value), P.info? t = some i ∧ i.zero = some v ∧ ∀ ρ β, v.cells = (SV.evs ρ β z).toArray) ∧ ∀ ρ n, SV.oks ρ n z := by
  unfold zeroS at h
  split at h
  · rename_i i hi
    split at h
    · rename_i v hv
      refine ⟨⟨i, v, hi, hv, fun ρ β => ?_⟩, fun ρ n => ?_⟩
      · have := (SV.cells_spec h ρ β).1
        rwa [ofValue_ev] at this
      · exact (SV.cells_spec h ρ (fun _ => (0, 0))).2 n (ofValue_ok ρ n v)
    · cases h
  · cases h
theorem buildS_run {t : TypeId} {parts : Array (Nat × SV)} {r : SV} (hp : ∀ p ∈ parts.toList, p.2.ok ρ n) (h : buildS P t parts.toList = some r) (w : World) :
    (Instr.build t (parts.map fun p => (p.1, p.2.ev ρ β))).run P w = .ok (r.ev ρ β) w ∧ r.ok ρ n := by
  unfold buildS at h
  split at h
  · rename_i fs z hu hz
    obtain ⟨⟨i, v, hi, hv, hc⟩, hok⟩ := zeroS_spec hz
    split at h
    · rename_i ps hps
      cases hf : fillS (ps[·]?) z parts.toList with
      | none => simp [hf] at h
      | some q =>
        simp only [hf, Option.map_some, Option.some.injEq] at h
        subst h
        obtain ⟨h1, h2, _⟩ := fillS_spec (β := β) (hok ρ n) hp hf
        refine ⟨?_, h2⟩
        refine run_build w t _ _ ?_
        unfold Program.built
        simp only [hi, hu, hv, placesS_spec hps, hc ρ β]
        simpa using h1
    · cases h
  · rename_i k e z hu hz
    obtain ⟨⟨i, v, hi, hv, hc⟩, hok⟩ := zeroS_spec hz
    split at h
    · rename_i m hm
      cases hf : fillS (fun i => some (i * m, m)) z parts.toList with
      | none => simp [hf] at h
      | some q =>
        simp only [hf, Option.map_some, Option.some.injEq] at h
        subst h
        obtain ⟨h1, h2, _⟩ := fillS_spec (β := β) (hok ρ n) hp hf
        refine ⟨?_, h2⟩
        refine run_build w t _ _ ?_
        unfold szOf at hm
        cases hie : P.info? e with
        | none => simp [hie] at hm
        | some ie =>
          simp [hie] at hm
          unfold Program.built
          simp only [hi, hu, hv, hie, hc ρ β, hm]
          simpa using h1
    · cases h
  · cases h
end
end Go.Proofs.YthbfjnmdjehljaaDoor.SX
