/- Operations that change the known heap or part in ways; one operation in whole. Of no program. -/
import Derived.Test.YthbfjnmdjehljaaDoorSxW
namespace Go.Proofs.YthbfjnmdjehljaaDoor.SX
open Go Go.RowKit
set_option linter.unusedVariables false
set_option linter.unusedSimpArgs false

abbrev Fs := List (E × Bool)
/-- What an operation or a call comes to: the value, the heap, what is known by now. -/
structure Out where
  v : SV
  hp : Hp
  fs : Fs
/-- How functions are called: the function, the arguments, the heap, what is known. -/
abbrev Caller := FuncId → List SV → Hp → Fs → T Out

section
variable (P : Program)
/-- A new box of cells. -/
def newBox (hp : Hp) (fs : Fs) (cs : List SV) (ty : TypeId) (v : Nat → SV) : T Out := .ok ⟨v hp.n, hp.push ⟨true, .cells cs ty 0⟩, fs⟩
def allocS (hp : Hp) (fs : Fs) (e : TypeId) : T Out :=
  match zeroS P e with
  | some z => newBox hp fs z e fun n => .ptr n 0
  | none => .bad 1
def boxS (hp : Hp) (fs : Fs) (e : TypeId) (s : SV) : T Out :=
  match s.cells? with
  | some cs => newBox hp fs cs e fun n => .ptr n 0
  | none => .bad 2
def repS (n : Nat) (z : List SV) : List SV := (List.range (n * z.length)).map fun i => z.getD (i % z.length) undefS
def buildSliceS (hp : Hp) (fs : Fs) (t : TypeId) (len : Nat) (parts : List (Nat × SV)) : T Out :=
  match P.underlying t with
  | some (.slice e) => match szOf P e, zeroS P e with
    | some n, some z => if len * n > 2 ^ 24 ∨ z.length ≠ n then .bad 3 else match fillS (fun i => some (i * n, n)) (repS len z) parts with
      | some cs => newBox hp fs cs e fun k => .slice k 0 len (some len)
      | none => .bad 4
    | _, _ => .bad 5
  | _ => .bad 6
def storeS (hp : Hp) (fs : Fs) (t : TypeId) (a x : SV) : T Out :=
  match a, x.cells?, szOf P t with
  | .ptr b off, some cs, some n => match hp.at b with
    | some ⟨true, .cells c ty tail⟩ => if cs.length = n ∧ off + cs.length ≤ c.length ∧ cs.all SV.one then .ok ⟨undefS, hp.put b ⟨true, .cells (splice c cs off) ty tail⟩, fs⟩ else .bad 7
    | _ => .bad 8
  | _, _, _ => .bad 9
def makeSliceS (hp : Hp) (fs : Fs) (t : TypeId) (l c : SV) : T Out :=
  match P.underlying t, natLit l, natLit c with
  | some (.slice e), some l, some c => match P.info? e, zeroS P e with
    | some i, some z => if l ≤ c ∧ c < 1000000 ∧ i.bytes * c ≤ 1000000 ∧ z.length = i.size then newBox hp fs (repS c z) e fun k => .slice k 0 l (some c) else .bad 10
    | _, _ => .bad 11
  | _, _, _ => .bad 12
/-- A slice's cells: the box's number, its place, and the cells from the slice's head on; a nil slice has none. -/
def rowS (hp : Hp) (n size : Nat) (s : SV) : Option (List SV) :=
  match s with
  | .raw (.slice none _ _) => if n = 0 then some [] else none
  | .slice b off _ _ => match cellsAt hp b with
    | some c => if off + n * size ≤ c.length then some ((c.drop off).take (n * size)) else none
    | none => none
  | _ => none
def lenS (s : SV) : Option Nat :=
  match s with
  | .raw (.slice none n _) => some n
  | .slice _ _ n _ => some n
  | _ => none
def copyS (hp : Hp) (fs : Fs) (ts : Array TypeId) (d s : SV) : T Out :=
  match ts[0]? with
  | some t => match P.underlying t, d, lenS s with
    | some (.slice e), .slice b off dl _, some sl => match szOf P e with
      | some z => match rowS hp (Nat.min sl dl) z s, hp.at b with
        | some cs, some ⟨true, .cells c ty tail⟩ => if off + cs.length ≤ c.length ∧ cs.all SV.one then
            match intLit (Nat.min sl dl) with
            | some v => .ok ⟨v, hp.put b ⟨true, .cells (splice c cs off) ty tail⟩, fs⟩
            | none => .bad 13
          else .bad 14
        | _, _ => .bad 15
      | none => .bad 16
    | _, _, _ => .bad 17
  | none => .bad 18
end

section
variable {P : Program} {ρ : Env} {w0 : World} {M : Nat → Prop} {β : Bm} {w : World} {hp : Hp} {fs : Fs}

/-- Boxes that may not be written stay as they are. -/
def Stay (hp hp' : Hp) : Prop := ∀ (k : Nat) (b : Box), hp.at k = some b → b.rw = false → hp'.at k = some b
theorem Stay.refl (hp : Hp) : Stay hp hp := fun _ _ h _ => h
theorem Stay.trans {a b c : Hp} (h : Stay a b) (h' : Stay b c) : Stay a c := fun k x hx hr => h' k x (h k x hx hr) hr
theorem Stay.push (hp : Hp) (b : Box) : Stay hp (hp.push b) := fun k x hx _ => by
  rw [Hp.at_push_lt _ (Hp.at_lt hx)]; exact hx
theorem Stay.set {hp : Hp} {k : Nat} {b c : Box} (hk : hp.at k = some b) (hr : b.rw = true) : Stay hp (hp.put k c) := fun j x hx hrx => by
  by_cases he : k = j
  · subst he; rw [hk] at hx; obtain rfl := Option.some.inj hx; rw [hr] at hrx; cases hrx
  · rw [Hp.at_put_ne _ (Ne.symm he)]; exact hx
/-- What must be shown of the ways of an operation: from each of them the rest goes on. -/
def Goes (ρ : Env) (w0 : World) (M : Nat → Prop) (β : Bm) (hp : Hp) (t : T Out) (K : Value → World → Prop) : Prop :=
  t.holds ρ fun o => ∀ (β' : Bm) (w' : World), Ext hp.n β β' → hp.n ≤ o.hp.n → Stay hp o.hp → Heap ρ w0 M β' o.hp w' → (∀ p ∈ o.fs, (p.1.ev ρ ≠ 0 ↔ p.2 = true)) → o.v.ok ρ o.hp.n → K (o.v.ev ρ β') w'

theorem newBox_run {cs : List SV} {ty : TypeId} {v : Nat → SV} {K : Value → World → Prop} (h : Heap ρ w0 M β hp w) (hf : ∀ p ∈ fs, (p.1.ev ρ ≠ 0 ↔ p.2 = true)) (hcs : SV.oks ρ hp.n cs) (hv : (v hp.n).ok ρ (hp.n + 1))
    (hk : Goes ρ w0 M β hp (newBox hp fs cs ty v) K) : K ((v hp.n).ev ρ (upd β hp.n (w.heap.size, 0))) (w.alloc (.cells (SV.evs ρ β cs).toArray ty)) := by
  refine hk (upd β hp.n (w.heap.size, 0)) _ (upd_ext _ _ _) (by simp) (Stay.push _ _) ?_ hf (by simpa using hv)
  refine h.alloc (b := .cells cs ty 0) (SV.oks_mono (Nat.le_succ _) _ hcs) ?_
  simp only [Bx.lies]
  rw [SV.evs_ext (upd_ext _ _ _) cs hcs]
  exact heap_alloc_new w _

theorem allocS_run {e : TypeId} {K : Value → World → Prop} (h : Heap ρ w0 M β hp w) (hf : ∀ p ∈ fs, (p.1.ev ρ ≠ 0 ↔ p.2 = true)) (hk : Goes ρ w0 M β hp (allocS P hp fs e) K) :
    ∃ v w', (Instr.alloc e true (.tuple #[])).run P w = .ok v w' ∧ K v w' := by
  unfold allocS at hk
  split at hk
  · rename_i z hz
    obtain ⟨⟨i, v, hi, hv, hc⟩, hok⟩ := zeroS_spec hz
    refine ⟨_, _, ?_, newBox_run (v := fun n => .ptr n 0) h hf (hok ρ _) (Nat.lt_succ_self _) hk⟩
    simp only [Instr.alloc, zeroValue, typeInfo, Sem.run_bind, run_program, Result.andThen_ok, hi, hv, Sem.run_pure, newVar, newRow, hc ρ β, run_newObj, World.alloc_eq, SV.ev, upd_same]
  · exact hk.elim
theorem boxS_run {e : TypeId} {s : SV} {K : Value → World → Prop} (h : Heap ρ w0 M β hp w) (hf : ∀ p ∈ fs, (p.1.ev ρ ≠ 0 ↔ p.2 = true)) (hs : s.ok ρ hp.n) (hk : Goes ρ w0 M β hp (boxS hp fs e s) K) :
    ∃ v w', (Instr.box e (s.ev ρ β)).run P w = .ok v w' ∧ K v w' := by
  unfold boxS at hk
  split at hk
  · rename_i cs hcs
    obtain ⟨h1, h2⟩ := SV.cells_spec hcs ρ β
    refine ⟨_, _, ?_, newBox_run (v := fun n => .ptr n 0) h hf (h2 _ hs) (Nat.lt_succ_self _) hk⟩
    simp only [Instr.box, Sem.run_bind, Result.andThen_ok, Sem.run_pure, newVar, newRow, h1, run_newObj, World.alloc_eq, SV.ev, upd_same]
  · exact hk.elim
theorem length_repS (n : Nat) (z : List SV) : (repS n z).length = n * z.length := by simp [repS]
theorem oks_repS {n m : Nat} {z : List SV} (h : SV.oks ρ n z) : SV.oks ρ n (repS m z) := by
  rw [SV.oks_mem] at *
  intro s hs
  obtain ⟨i, _, rfl⟩ := List.mem_map.1 hs
  rw [List.getD]
  cases hz : z[i % z.length]? with
  | none => trivial
  | some s => exact h s (List.mem_of_getElem? hz)
theorem evs_repS (n : Nat) (z : List SV) : (SV.evs ρ β (repS n z)).toArray = (Array.range (n * z.length)).map fun i => (SV.evs ρ β z).toArray[i % (SV.evs ρ β z).toArray.size]! := by
  have hl : (SV.evs ρ β z).length = z.length := by rw [SV.evs_map]; simp
  apply Array.ext'
  simp only [SV.evs_map, repS, List.map_map, Array.toList_map, Array.toList_range, List.size_toArray, List.length_map]
  refine List.map_congr_left fun i hi => ?_
  have hlt : i % z.length < z.length := by
    have := List.mem_range.1 hi
    refine Nat.mod_lt _ ?_
    rcases Nat.eq_zero_or_pos z.length with h0 | h0
    · rw [h0] at this; simp at this
    · exact h0
  simp only [Function.comp_apply, List.getD, List.getElem?_eq_getElem hlt, Option.getD_some]
  simp [hlt]
theorem buildSliceS_run {t : TypeId} {len : Nat} {parts : Array (Nat × SV)} {K : Value → World → Prop} (h : Heap ρ w0 M β hp w) (hf : ∀ p ∈ fs, (p.1.ev ρ ≠ 0 ↔ p.2 = true)) (hp' : ∀ p ∈ parts.toList, p.2.ok ρ hp.n)
    (hk : Goes ρ w0 M β hp (buildSliceS P hp fs t len parts.toList) K) : ∃ v w', (Instr.buildSlice t len (parts.map fun p => (p.1, p.2.ev ρ β))).run P w = .ok v w' ∧ K v w' := by
  unfold buildSliceS at hk
  split at hk
  · rename_i e hu
    split at hk
    · rename_i n z hn hz
      split at hk
      · exact hk.elim
      · rename_i hc
        obtain ⟨⟨i, v, hi, hv, hc1⟩, hok⟩ := zeroS_spec hz
        split at hk
        · rename_i cs hcs
          obtain ⟨q1, q2, q3⟩ := fillS_spec (β := β) (oks_repS (m := len) (hok ρ hp.n)) hp' hcs
          have hzl : z.length = n := by omega
          refine ⟨_, _, ?_, newBox_run (v := fun k => .slice k 0 len (some len)) h hf q2 (Nat.lt_succ_self _) hk⟩
          rw [evs_repS, hzl] at q1
          have hpl : (parts.map fun p => (p.1, p.2.ev ρ β)).toList = parts.toList.map fun p => (p.1, p.2.ev ρ β) := by simp
          simp only [Instr.buildSlice, Sem.run_bind, run_underlying hu w, Result.andThen_ok, szOf_run hn w, Sem.run_ite, if_neg (show ¬ len * n > 2 ^ 24 by omega), Sem.run_pure]
          rw [hpl]
          by_cases h0 : len * n = 0
          · have e1 : (Array.range (len * n)).map (fun i => (SV.evs ρ β z).toArray[i % (SV.evs ρ β z).toArray.size]!) = #[] := by rw [h0]; simp
            have e2 : (Array.range (len * n)).map (fun i => (#[] : Array Value)[i % (#[] : Array Value).size]!) = #[] := by rw [h0]; simp
            rw [e1] at q1
            simp only [h0, if_true, Sem.run_pure, Result.andThen_ok]
            simp only [h0] at e2
            rw [e2, q1]
            simp only [newRow, Sem.run_bind, run_newObj, Result.andThen_ok, Sem.run_pure, World.alloc_eq, SV.ev, upd_same, Option.getD_some]
          · simp only [h0, if_false, zeroValue, typeInfo, Sem.run_bind, run_program, Result.andThen_ok, hi, hv, Sem.run_pure, hc1 ρ β]
            rw [q1]
            simp only [newRow, Sem.run_bind, run_newObj, Result.andThen_ok, Sem.run_pure, World.alloc_eq, SV.ev, upd_same, Option.getD_some]
        · exact hk.elim
    · exact hk.elim
  · exact hk.elim
theorem storeS_run {t : TypeId} {a x : SV} {K : Value → World → Prop} (h : Heap ρ w0 M β hp w) (hf : ∀ p ∈ fs, (p.1.ev ρ ≠ 0 ↔ p.2 = true)) (hx : x.ok ρ hp.n) (hk : Goes ρ w0 M β hp (storeS P hp fs t a x) K) :
    ∃ w', (Instr.storeAt t (a.ev ρ β) (x.ev ρ β)).run P w = .ok () w' ∧ K undef w' := by
  unfold storeS at hk
  split at hk
  · rename_i b off cs n hcs hn
    split at hk
    · rename_i c ty tail hb
      split at hk
      · rename_i hc
        obtain ⟨hc1, hc2, hc3⟩ := hc
        obtain ⟨h1, h2⟩ := SV.cells_spec hcs ρ β
        obtain ⟨w', r1, r2⟩ := Heap.store (P := P) h hb rfl hc2 (fun s hs => List.all_eq_true.1 hc3 s hs) (h2 _ hx)
        refine ⟨w', ?_, hk β w' (Ext.refl _ _) (by simp) (Stay.set hb rfl) r2 hf trivial⟩
        have hsz : (SV.evs ρ β cs).toArray.size = n := by rw [SV.evs_map]; simpa using hc1
        simp only [Instr.storeAt, SV.ev, Instr.sureAddr, Sem.run_bind, Sem.run_pure, Result.andThen_ok, storeVar, szOf_run hn w, h1, hsz, ne_eq, not_true_eq_false, if_false]
        simpa using r1
      · exact hk.elim
    · exact hk.elim
  · exact hk.elim
end
end Go.Proofs.YthbfjnmdjehljaaDoor.SX
