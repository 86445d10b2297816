/- The executor: operations that write. -/
import Derived.Test.YtfcpmapfhgibpaaGreatDoorWc
import Derived.OrdersHeld
set_option linter.unusedVariables false
set_option linter.unusedSimpArgs false
set_option maxRecDepth 1000000
namespace Go.Proofs.YtfcpmapfhgibpaaGreatDoor
namespace SX
open Go Go.RowKit
abbrev Fs := List (E × Bool)
structure Out where
 v : SV
 hp : Hp
 fs : Fs
abbrev Caller := FuncId -> List SV -> Hp -> Fs -> T Out
section
variable (P : Program)
def newBox (hp : Hp) (fs : Fs) (cs : List SV) (ty : TypeId) (v : Nat -> SV) : T Out := .ok ⟨v hp.n, hp.push ⟨true, .cells cs ty 0⟩, fs⟩
def allocS (hp : Hp) (fs : Fs) (e : TypeId) : T Out :=
 match zeroS P e with
 | some z => newBox hp fs z e fun n => .ptr n 0
 | none => .bad 1
def boxS (hp : Hp) (fs : Fs) (e : TypeId) (s : SV) : T Out :=
 match s.cells? with
 | some cs => newBox hp fs cs e fun n => .ptr n 0
 | none => .bad 2
def repS (n : Nat) (z : List SV) : List SV := (List.range (n * z.length)).map fun i => z.getD (i % z.length) undefS
def buildSliceS (hp : Hp) (fs : Fs) (t : TypeId) (len : Nat) (parts : List (Nat × SV)) : T Out :=
 match P.underlying t with
 | some (.slice e) => match szOf P e, zeroS P e with
  | some n, some z => if len * n > 2 ^ 24 \/ z.length ≠ n then .bad 3 else match fillS (fun i => some (i * n, n)) (repS len z) parts with
   | some cs => newBox hp fs cs e fun k => .slice k 0 len (some len)
   | none => .bad 4
  | _, _ => .bad 5
 | _ => .bad 6
def storeS (hp : Hp) (fs : Fs) (t : TypeId) (a x : SV) : T Out :=
 match a, x.cells?, szOf P t with
 | .ptr b off, some cs, some n => match hp.at b with
  | some ⟨true, .cells c ty tail⟩ => if cs.length = n /\ off + cs.length <= c.length /\ cs.all SV.one then .ok ⟨undefS, hp.put b ⟨true, .cells (splice c cs off) ty tail⟩, fs⟩ else .bad 7
  | _ => .bad 8
 | _, _, _ => .bad 9
def makeSliceS (hp : Hp) (fs : Fs) (t : TypeId) (l c : SV) : T Out :=
 match P.underlying t, natLit l, natLit c with
 | some (.slice e), some l, some c => match P.info? e, zeroS P e with
  | some i, some z => if l <= c /\ c < 1000000 /\ i.bytes * c <= 1000000 /\ z.length = i.size then newBox hp fs (repS c z) e fun k => .slice k 0 l (some c) else .bad 10
  | _, _ => .bad 11
 | _, _, _ => .bad 12
def rowS (hp : Hp) (n size : Nat) (s : SV) : Option (List SV) :=
 match s with
 | .raw (.slice none _ _) => if n = 0 then some [] else none
 | .slice b off _ _ => match cellsAt hp b with
  | some c => if off + n * size <= c.length then some ((c.drop off).take (n * size)) else none
  | none => none
 | _ => none
def cutS (hp : Hp) (fs : Fs) (t : TypeId) (x : SV) (lo : Option SV) : T Out :=
 match P.underlying t, x with
 | some (.slice e), .slice b 0 len none => match szOf P e, hp.at b, boundS lo 0 len with
  | some z, some ⟨_, .cells c _ (s + 1)⟩, some l => if s = z /\ c.length = len * z /\ 0 < z then
    (if l < len then .ok ⟨.slice hp.n (l * z) (len - l) none, hp.push ⟨false, .view b l⟩, fs⟩
    else if l = len then .both (.ok ⟨.slice hp.n 0 0 none, hp.push ⟨false, .view b l⟩, fs⟩) (.ok ⟨.slice hp.n (l * z) 0 none, hp.push ⟨false, .view b l⟩, fs⟩) else .bad 133)
   else .bad 130
  | _, _, _ => .bad 131
 | _, _ => .bad 132
def sliceH (hp : Hp) (t : TypeId) (x : SV) (lo hi : Option SV) : Option SV :=
 match x, lo, hi with
 | .slice b 0 len none, none, some y => match P.underlying t with
  | some (.slice e) => match szOf P e, hp.at b, natLit y with
   | some z, some ⟨_, .cells c _ (s + 1)⟩, some h => if h <= len /\ s = z /\ c.length = len * z /\ 0 < z then some (.slice b 0 h none) else none
   | _, _, _ => none
  | _ => none
 | x, lo, hi => sliceS P t x lo hi none
def lenS (s : SV) : Option Nat :=
 match s with
 | .raw (.slice none n _) => some n
 | .slice _ _ n _ => some n
 | _ => none
def copyS (hp : Hp) (fs : Fs) (ts : Array TypeId) (d s : SV) : T Out :=
 match ts[0]? with
 | some t => match P.underlying t, d, lenS s with
  | some (.slice e), .slice b off dl _, some sl => match szOf P e with
   | some z => match rowS hp (Nat.min sl dl) z s, hp.at b with
    | some cs, some ⟨true, .cells c ty tail⟩ => if off + cs.length <= c.length /\ cs.all SV.one then
      match intLit (Nat.min sl dl) with
      | some v => .ok ⟨v, hp.put b ⟨true, .cells (splice c cs off) ty tail⟩, fs⟩
      | none => .bad 13
     else .bad 14
    | _, _ => .bad 15
   | none => .bad 16
  | _, _, _ => .bad 17
 | none => .bad 18
end
section
variable {P : Program} {ρ : Env} {w0 : World} {M : Nat -> Prop} {β : Bm} {w : World} {hp : Hp} {fs : Fs}
def Stay (hp hp' : Hp) : Prop := ∀ (k : Nat) (b : Box), hp.at k = some b -> b.rw = false -> hp'.at k = some b
theorem Stay.refl (hp : Hp) : Stay hp hp := fun _ _ h _ => h
theorem Stay.trans {a b c : Hp} (h : Stay a b) (h' : Stay b c) : Stay a c := fun k x hx hr => h' k x (h k x hx hr) hr
theorem Stay.push (hp : Hp) (b : Box) : Stay hp (hp.push b) := fun k x hx _ => by
 rw [Hp.at_push_lt _ (Hp.at_lt hx)]; exact hx
theorem Stay.set {hp : Hp} {k : Nat} {b c : Box} (hk : hp.at k = some b) (hr : b.rw = true) : Stay hp (hp.put k c) := fun j x hx hrx => by
 by_cases he : k = j
 ·subst he; rw [hk] at hx; obtain rfl := sinj hx; rw [hr] at hrx; cases hrx
 ·rw [Hp.at_put_ne _ (Ne.symm he)]; exact hx
def Goes (ρ : Env) (w0 : World) (M : Nat -> Prop) (β : Bm) (hp : Hp) (t : T Out) (K : Value -> World -> Prop) : Prop :=
 t.holds ρ fun o => ∀ (β' : Bm) (w' : World), Ext hp.n β β' -> hp.n <= o.hp.n -> Stay hp o.hp -> Heap ρ w0 M β' o.hp w' -> (∀ p ∈ o.fs, (p.1.ev ρ ≠ 0 ↔ p.2 = true)) -> o.v.ok ρ o.hp.n -> K (o.v.ev ρ β') w'
theorem newBox_run {cs : List SV} {ty : TypeId} {v : Nat -> SV} {K : Value -> World -> Prop} (h : Heap ρ w0 M β hp w) (hf : ∀ p ∈ fs, (p.1.ev ρ ≠ 0 ↔ p.2 = true)) (hcs : SV.oks ρ hp.n cs) (hv : (v hp.n).ok ρ (hp.n + 1))
  (hk : Goes ρ w0 M β hp (newBox hp fs cs ty v) K) : K ((v hp.n).ev ρ (upd β hp.n (w.heap.size, 0))) (w.alloc (.cells (SV.evs ρ β cs).toArray ty)) := by
 refine hk (upd β hp.n (w.heap.size, 0)) _ (upd_ext _ _ _) (by simp) (Stay.push _ _) ?_ hf (by simpa using hv)
 refine h.alloc (b := .cells cs ty 0) (SV.oks_mono (Nat.le_succ _) _ hcs) ?_; simp only [Bx.lies]; rw [SV.evs_ext (upd_ext _ _ _) cs hcs]; exact heap_alloc_new w _
theorem allocS_run {e : TypeId} {K : Value -> World -> Prop} (h : Heap ρ w0 M β hp w) (hf : ∀ p ∈ fs, (p.1.ev ρ ≠ 0 ↔ p.2 = true)) (hk : Goes ρ w0 M β hp (allocS P hp fs e) K) :
  ∃ v w', (Instr.alloc e true (.tuple #[])).run P w = .ok v w' /\ K v w' := by
 unfold allocS at hk; split at hk
 ·rename_i z hz
  obtain ⟨⟨i, v, hi, hv, hc⟩, hok⟩ := zeroS_spec hz; refine ⟨_, _, ?_, newBox_run (v := fun n => .ptr n 0) h hf (hok ρ _) (Nat.lt_succ_self _) hk⟩
  simp only [Instr.alloc, zeroValue, typeInfo, Sem.run_bind, run_program, aOk, hi, hv, Sem.run_pure, newVar, newRow, hc ρ β, run_newObj, World.alloc_eq, SV.ev, upd_same]
 ·exact hk.elim
theorem boxS_run {e : TypeId} {s : SV} {K : Value -> World -> Prop} (h : Heap ρ w0 M β hp w) (hf : ∀ p ∈ fs, (p.1.ev ρ ≠ 0 ↔ p.2 = true)) (hs : s.ok ρ hp.n) (hk : Goes ρ w0 M β hp (boxS hp fs e s) K) :
  ∃ v w', (Instr.box e (s.ev ρ β)).run P w = .ok v w' /\ K v w' := by
 unfold boxS at hk; split at hk
 ·rename_i cs hcs
  obtain ⟨h1, h2⟩ := SV.cells_spec hcs ρ β; refine ⟨_, _, ?_, newBox_run (v := fun n => .ptr n 0) h hf (h2 _ hs) (Nat.lt_succ_self _) hk⟩
  simp only [Instr.box, Sem.run_bind, aOk, Sem.run_pure, newVar, newRow, h1, run_newObj, World.alloc_eq, SV.ev, upd_same]
 ·exact hk.elim
theorem oks_repS {n m : Nat} {z : List SV} (h : SV.oks ρ n z) : SV.oks ρ n (repS m z) := by
 rw [SV.oks_mem] at *; intro s hs; obtain ⟨i, _, rfl⟩ := List.mem_map.1 hs; rw [List.getD]; cases hz : z[i % z.length]? with
 | none => trivial
 | some s => exact h s (List.mem_of_getElem? hz)
theorem evs_repS (n : Nat) (z : List SV) : (SV.evs ρ β (repS n z)).toArray = (Array.range (n * z.length)).map fun i => (SV.evs ρ β z).toArray[i % (SV.evs ρ β z).toArray.size]! := by
 have hl : (SV.evs ρ β z).length = z.length := by rw [SV.evs_map]; simp
 apply Array.ext'; simp only [SV.evs_map, repS, List.map_map, Array.toList_map, Array.toList_range, List.size_toArray, List.length_map]; refine List.map_congr_left fun i hi => ?_
 have hlt : i % z.length < z.length := by
  have := mRa.1 hi; refine Nat.mod_lt _ ?_; rcases Nat.eq_zero_or_pos z.length with h0 | h0
  ·rw [h0] at this; simp at this
  ·exact h0
 simp only [Function.comp_apply, List.getD, lGe hlt, Option.getD_some]; simp [hlt]
theorem buildSliceS_run {t : TypeId} {len : Nat} {parts : Array (Nat × SV)} {K : Value -> World -> Prop} (h : Heap ρ w0 M β hp w) (hf : ∀ p ∈ fs, (p.1.ev ρ ≠ 0 ↔ p.2 = true)) (hp' : ∀ p ∈ parts.toList, p.2.ok ρ hp.n)
  (hk : Goes ρ w0 M β hp (buildSliceS P hp fs t len parts.toList) K) : ∃ v w', (Instr.buildSlice t len (parts.map fun p => (p.1, p.2.ev ρ β))).run P w = .ok v w' /\ K v w' := by
 unfold buildSliceS at hk; split at hk
 ·rename_i e hu
  split at hk
  ·rename_i n z hn hz
   split at hk
   ·exact hk.elim
   ·rename_i hc
    obtain ⟨⟨i, v, hi, hv, hc1⟩, hok⟩ := zeroS_spec hz; split at hk
    ·rename_i cs hcs
     obtain ⟨q1, q2, q3⟩ := fillS_spec (β := β) (oks_repS (m := len) (hok ρ hp.n)) hp' hcs; have hzl : z.length = n := by omega
     refine ⟨_, _, ?_, newBox_run (v := fun k => .slice k 0 len (some len)) h hf q2 (Nat.lt_succ_self _) hk⟩
     rw [evs_repS, hzl] at q1; have hpl : (parts.map fun p => (p.1, p.2.ev ρ β)).toList = parts.toList.map fun p => (p.1, p.2.ev ρ β) := by simp
     simp only [Instr.buildSlice, Sem.run_bind, run_underlying hu w, aOk, szOf_run hn w, Sem.run_ite, if_neg (show ¬ len * n > 2 ^ 24 by omega), Sem.run_pure]
     rw [hpl]
     by_cases h0 : len * n = 0
     ·have e1 : (Array.range (len * n)).map (fun i => (SV.evs ρ β z).toArray[i % (SV.evs ρ β z).toArray.size]!) = #[] := by rw [h0]; simp
      have e2 : (Array.range (len * n)).map (fun i => (#[] : Array Value)[i % (#[] : Array Value).size]!) = #[] := by rw [h0]; simp
      rw [e1] at q1; simp only [h0, if_true, Sem.run_pure, aOk]; simp only [h0] at e2; rw [e2, q1]; simp only [newRow, Sem.run_bind, run_newObj, aOk, Sem.run_pure, World.alloc_eq, SV.ev, upd_same, Option.getD_some]
     ·simp only [h0, if_false, zeroValue, typeInfo, Sem.run_bind, run_program, aOk, hi, hv, Sem.run_pure, hc1 ρ β]
      rw [q1]; simp only [newRow, Sem.run_bind, run_newObj, aOk, Sem.run_pure, World.alloc_eq, SV.ev, upd_same, Option.getD_some]
    ·exact hk.elim
  ·exact hk.elim
 ·exact hk.elim
theorem storeS_run {t : TypeId} {a x : SV} {K : Value -> World -> Prop} (h : Heap ρ w0 M β hp w) (hf : ∀ p ∈ fs, (p.1.ev ρ ≠ 0 ↔ p.2 = true)) (hx : x.ok ρ hp.n) (hk : Goes ρ w0 M β hp (storeS P hp fs t a x) K) :
  ∃ w', (Instr.storeAt t (a.ev ρ β) (x.ev ρ β)).run P w = .ok () w' /\ K undef w' := by
 unfold storeS at hk; split at hk
 ·rename_i b off cs n hcs hn
  split at hk
  ·rename_i c ty tail hb
   split at hk
   ·rename_i hc
    obtain ⟨hc1, hc2, hc3⟩ := hc; obtain ⟨h1, h2⟩ := SV.cells_spec hcs ρ β; obtain ⟨w', r1, r2⟩ := Heap.store (P := P) h hb rfl hc2 (fun s hs => lAl.1 hc3 s hs) (h2 _ hx)
    refine ⟨w', ?_, hk β w' (Ext.refl _ _) (by simp) (Stay.set hb rfl) r2 hf trivial⟩
    have hsz : (SV.evs ρ β cs).toArray.size = n := by rw [SV.evs_map]; simpa using hc1
    simp only [Instr.storeAt, SV.ev, Instr.sureAddr, Sem.run_bind, Sem.run_pure, aOk, storeVar, szOf_run hn w, h1, hsz, ne_eq, not_true_eq_false, if_false]
    simpa using r1
   ·exact hk.elim
  ·exact hk.elim
 ·exact hk.elim
end
section
variable (P : Program)
def rowI (hp : Hp) (k z off : Nat) (len0 : E) (m : Nat) : Option (List SV) :=
 match hp.at k with
 | some ⟨_, .arr a ks len0'⟩ => if z = ks.length /\ len0.beq len0' = true /\ 0 < z /\ off % z = 0 then some ((List.range (m * z)).map fun j => match ks[j % z]? with
   | some l => l.rd a (j % z) (.lit (Int.ofNat (off / z + j / z)))
   | none => undefS) else none
 | _ => none
def lenX (fs : Fs) (x : SV) : Option Nat :=
 match x with
 | .inp _ _ _ _ len _ => match canon fs len with
  | .lit (.ofNat m) => some m
  | _ => none
 | x => lenS x
def rowX (hp : Hp) (m z : Nat) (x : SV) : Option (List SV) :=
 match x with
 | .inp k z' off len0 _ _ => if z' = z then rowI hp k z off len0 m else none
 | x => rowS hp m z x
def appendS (hp : Hp) (fs : Fs) (ts : Array TypeId) (s x : SV) : T Out :=
 match ts[0]?, ts[1]?, lenS s, lenX fs x with
 | some t, some u, some n, some m => if t = u then match P.underlying t with
  | some (.slice e) => match P.info? e, zeroS P e with
   | some i, some z => match rowS hp n i.size s, rowX hp m i.size x with
    | some olds, some news =>
     if m = 0 then
      match s with
      | .raw (.slice none 0 0) => .ok ⟨s, hp, fs⟩
      | .slice _ _ l (some cap) => if l <= cap then .ok ⟨s, hp, fs⟩ else .bad 59
      | .slice b _ l none => match hp.at b with
       | some ⟨_, .cells c _ (tl + 1)⟩ => if 0 < tl /\ l * tl <= c.length then .ok ⟨s, hp, fs⟩ else .bad 57
       | _ => .bad 56
      | _ => .bad 58
     else if z.length = i.size /\ 0 < m /\ n + m < 1000000 /\ (n + m) * i.bytes <= 100000000 then
      match s with
      | .raw (.slice none 0 0) => .ok ⟨.slice hp.n 0 m none, hp.push ⟨true, .cells news e (i.size + 1)⟩, fs⟩
      | .slice b off _ (some cap) => if n + m <= cap then
        match hp.at b with
        | some ⟨true, .cells c ty tail⟩ => if off + n * i.size + news.length <= c.length /\ news.all SV.one then .ok ⟨.slice b off (n + m) (some cap), hp.put b ⟨true, .cells (splice c news (off + n * i.size)) ty tail⟩, fs⟩ else .bad 60
        | _ => .bad 61
       else .ok ⟨.slice hp.n 0 (n + m) none, hp.push ⟨true, .cells (olds ++ news) e (i.size + 1)⟩, fs⟩
      | .slice b off _ none => match hp.at b with
       | some ⟨true, .cells c ty tail⟩ => if off = 0 /\ ty = e /\ tail = i.size + 1 /\ c.length = n * i.size /\ news.all SV.one then .ok ⟨.slice hp.n 0 (n + m) none, (hp.put b ⟨false, .gone⟩).push ⟨true, .cells (olds ++ news) e (i.size + 1)⟩, fs⟩ else .bad 62
       | _ => .bad 63
      | _ => .bad 64
     else .bad 65
    | _, _ => .bad 66
   | _, _ => .bad 67
  | _ => .bad 68
  else .bad 69
 | _, _, _, _ => .bad 70
def copyI (hp : Hp) (fs : Fs) (ts : Array TypeId) (d : SV) (k z off : Nat) (len0 len : E) : T Out :=
 match ts[0]?, canon fs len with
 | some t, .lit (.ofNat sl) => match P.underlying t, d with
  | some (.slice e), .slice b off' dl _ => match szOf P e with
   | some z' => match rowI hp k z off len0 (Nat.min sl dl), hp.at b with
    | some cs, some ⟨true, .cells c ty tail⟩ => if z' = z /\ off' + cs.length <= c.length /\ cs.all SV.one then
      match intLit (Nat.min sl dl) with
      | some v => .ok ⟨v, hp.put b ⟨true, .cells (splice c cs off') ty tail⟩, fs⟩
      | none => .bad 213
     else .bad 214
    | _, _ => .bad 215
   | none => .bad 216
  | _, _ => .bad 217
 | _, _ => .bad 218
def litF (fs : Fs) (s : SV) : SV :=
 match s with
 | .int k e => match canon fs e with
  | .lit n => .int k (.lit n)
  | _ => .int k e
 | s => s
def makeMapS (hp : Hp) (fs : Fs) : T Out := .ok ⟨.map hp.n, hp.push ⟨true, .map [] 0⟩, fs⟩
abbrev Ents := List (SV × SV × Nat)
def findS (k : IntKind) (a : E) (f : Fs -> Option (Nat × SV) -> T Out) : Ents -> Nat -> Fs -> T Out
 | [], _, fs => f fs none
 | (.int j e, v, _) :: es, i, fs => if kTag k = kTag j then split fs (mk .eq k a e) (fun fs => f fs (some (i, v))) (fun fs => findS k a f es (i + 1) fs) else .bad 71
 | _, _, _ => .bad 72
def mapOf (hp : Hp) (m : SV) : Option (Nat × Bool × Ents × Nat) :=
 match m with
 | .map b => match hp.at b with
  | some ⟨r, .map es clock⟩ => some (b, r, es, clock)
  | _ => none
 | _ => none
def lookupS (hp : Hp) (fs : Fs) (t : TypeId) (m key : SV) (commaOk : Bool) : T Out :=
 match P.underlying t, mapOf hp m, key with
 | some (.map kt et), some (_, _, es, _), .int k a => match P.underlying kt, P.info? et with
  | some (.int _), some i => match i.zero with
   | some z => findS k a (fun fs r => .ok ⟨match r with
     | some (_, v) => if commaOk then .tuple [v, .bool (.lit 1)] else v
     | none => if commaOk then .tuple [ofValue z, .bool (.lit 0)] else ofValue z, hp, fs⟩) es 0 fs
   | none => .bad 73
  | _, _ => .bad 74
 | _, _, _ => .bad 75
def updateS (hp : Hp) (fs : Fs) (t : TypeId) (m key x : SV) : T Out :=
 match P.underlying t, mapOf hp m, key with
 | some (.map kt et), some (b, true, es, clock), .int k (.lit a) => match P.underlying kt with
  | some (.int _) => findS k (.lit a) (fun fs r => match r with
    | some (i, _) => match es[i]? with
     | some (.int j (.lit a'), _, born) => if kTag k = kTag j /\ a = a' then .ok ⟨undefS, hp.put b ⟨true, .map (es.set i (.int k (.lit a), x, born)) clock⟩, fs⟩ else .bad 76
     | _ => .bad 77
    | none => .ok ⟨undefS, hp.put b ⟨true, .map (es ++ [(.int k (.lit a), x, clock)]) (clock + 1)⟩, fs⟩) es 0 fs
  | _ => .bad 78
 | _, _, _ => .bad 79
def mapLenS (hp : Hp) (fs : Fs) (ts : Array TypeId) (m : SV) : T Out :=
 match ts[0]?, mapOf hp m with
 | some t, some (_, _, es, _) => match P.underlying t, intLit es.length with
  | some (.map _ _), some v => .ok ⟨v, hp, fs⟩
  | _, _ => .bad 80
 | _, _ => .bad 81
end
section
variable {P : Program} {ρ : Env} {w0 : World} {M : Nat -> Prop} {β : Bm} {w : World} {hp : Hp} {fs : Fs}
theorem makeSliceS_run {t : TypeId} {l c : SV} {K : Value -> World -> Prop} (h : Heap ρ w0 M β hp w) (hf : ∀ p ∈ fs, (p.1.ev ρ ≠ 0 ↔ p.2 = true)) (hk : Goes ρ w0 M β hp (makeSliceS P hp fs t l c) K) :
  ∃ v w', (Instr.makeSlice t (l.ev ρ β) (c.ev ρ β)).run P w = .ok v w' /\ K v w' := by
 unfold makeSliceS at hk; split at hk
 ·rename_i e l' c' hu hl hc
  obtain ⟨kl, rfl⟩ := natLit_spec hl; obtain ⟨kc, rfl⟩ := natLit_spec hc; split at hk
  ·rename_i i z hi hz
   split at hk
   ·rename_i hcond
    obtain ⟨h1, h2, h3, h4⟩ := hcond; obtain ⟨⟨i', v, hi', hv, hc1⟩, hok⟩ := zeroS_spec hz; obtain rfl : i = i' := by rw [hi] at hi'; exact sinj hi'
    refine ⟨_, _, ?_, newBox_run (v := fun k => .slice k 0 l' (some c')) h hf (oks_repS (m := c') (hok ρ hp.n)) (Nat.lt_succ_self _) hk⟩
    rw [evs_repS, h4]; have wl : IntKind.i64.wrap (l' : Int) = l' := by rw [IntKind.wrap_i64]; omega
    have wc : IntKind.i64.wrap (c' : Int) = c' := by rw [IntKind.wrap_i64]; omega
    have hb : ((i.bytes : Int) * (c' : Int)) <= 1000000 := by
     have : ((i.bytes * c' : Nat) : Int) <= 1000000 := by omega
     rwa [Int.natCast_mul] at this
    have n1 : ¬ ((c' : Int) < 0) := by omega
    have n2 : ¬ ((281474976710656 : Int) < (i.bytes : Int) * (c' : Int)) := by omega
    have n3 : ¬ ((l' : Int) < 0) := by omega
    have n4 : ¬ ((c' : Int) < (l' : Int)) := by omega
    have hsz : (sizeOf e).run P w = .ok i.size w := by simp [sizeOf, typeInfo, hi]
    by_cases h0 : c' * i.size = 0
    ·have e1 : (Array.range (c' * i.size)).map (fun j => (SV.evs ρ β z).toArray[j % (SV.evs ρ β z).toArray.size]!) = #[] := by rw [h0]; simp
     rw [e1]; simp [Instr.makeSlice, run_underlying hu w, asInt, asIntOf, SV.ev, E.ev, typeInfo, hi, wl, wc, n1, n2, n3, n4, hsz, h0, newRow, upd_same]; have e2 : Array.map (fun _ : Nat => (default : Value)) (Array.range 0) = #[] := by simp
     rw [e2]
    ·simp [Instr.makeSlice, run_underlying hu w, asInt, asIntOf, SV.ev, E.ev, typeInfo, hi, wl, wc, n1, n2, n3, n4, hsz, h0, newRow, upd_same, zeroValue, hv, hc1 ρ β]
   ·exact hk.elim
  ·exact hk.elim
 ·exact hk.elim
theorem lenS_spec {s : SV} {m : Nat} (h : lenS s = some m) : (∃ c, s = .raw (.slice none m c)) \/ ∃ b off c, s = .slice b off m c := by
 unfold lenS at h; split at h
 ·obtain rfl := sinj h; exact .inl ⟨_, rfl⟩
 ·obtain rfl := sinj h; exact .inr ⟨_, _, _, rfl⟩
 ·cases h
theorem run_lenOf {s : SV} {m : Nat} (h : lenS s = some m) (w : World) : (Builtin.lenOf (s.ev ρ β)).run P w = .ok m w := by
 rcases lenS_spec h with ⟨c, rfl⟩ | ⟨b, off, c, rfl⟩ <;> rfl
theorem rowS_run {s : SV} {cs : List SV} {m z : Nat} (hs : Heap ρ w0 M β hp w) (h : rowS hp m z s = some cs) : (Builtin.firstCells z m (s.ev ρ β)).run P w = .ok (SV.evs ρ β cs).toArray w /\ SV.oks ρ hp.n cs /\ cs.length = m * z /\
  (∀ b off l c, s = .slice b off l c -> ∀ j v, (SV.evs ρ β cs)[j]? = some v -> w.cell? ((⟨(β b).1, off, none⟩ : Addr).add j) = some v) := by
 unfold rowS at h; split at h
 ·split at h
  ·rename_i hm
   obtain rfl := sinj h; subst hm; exact ⟨rfl, trivial, by simp, fun _ _ _ _ e => by cases e⟩
  ·cases h
 ·rename_i b off l c
  split at h
  ·rename_i d hd
   split at h
   ·rename_i hle
    obtain rfl := sinj h; obtain ⟨hg, hgood⟩ := cellsAt_spec hs.sees hd; have hlen : ((d.drop off).take (m * z)).length = m * z := by simp; omega
    have hlenv : (SV.evs ρ β ((d.drop off).take (m * z))).length = m * z := by rw [SV.evs_map]; simpa using hlen
    have hcell : ∀ j v, (SV.evs ρ β ((d.drop off).take (m * z)))[j]? = some v -> w.cell? ((⟨(β b).1, off, none⟩ : Addr).add j) = some v := fun j v hv => by
     rw [add_lit]; have hj : j < m * z := by rw [<- hlenv]; exact (lSo.1 hv).1
     rw [SV.evs_map, lMp, List.getElem?_take, if_pos hj, List.getElem?_drop] at hv; refine hg _ _ ?_; rw [SV.evs_map, lMp]; exact hv
    refine ⟨?_, oks_part hgood _ _, hlen, fun b' off' l' c' e => by cases e; exact hcell⟩
    simp only [SV.ev]; exact run_firstCells_some w z m _ _ _ _ hlenv hcell
   ·cases h
  ·cases h
 ·cases h
theorem copyS_run {ts : Array TypeId} {d s : SV} {K : Value -> World -> Prop} (h : Heap ρ w0 M β hp w) (hf : ∀ p ∈ fs, (p.1.ev ρ ≠ 0 ↔ p.2 = true)) (ty : TypeId) (hk : Goes ρ w0 M β hp (copyS P hp fs ts d s) K) :
  ∃ v w', (Builtin.copy_ ts ty #[d.ev ρ β, s.ev ρ β]).run P w = .ok v w' /\ K v w' := by
 unfold copyS at hk; split at hk
 ·rename_i t ht
  split at hk
  ·rename_i e b off dl cap sl hu hsl
   split at hk
   ·rename_i z hz
    split at hk
    ·rename_i cs c ty' tail hcs hb
     split at hk
     ·rename_i hcond
      split at hk
      ·rename_i v hv
       obtain ⟨r1, r2, r3, r4⟩ := rowS_run (P := P) h hcs; obtain ⟨w', s1, s2⟩ := Heap.store (P := P) h hb rfl hcond.1 (fun x hx => lAl.1 hcond.2 x hx) r2
       obtain ⟨v1, v2⟩ := intLit_spec (ρ := ρ) (β := β) (n := (hp.put b ⟨true, .cells (splice c cs off) ty' tail⟩).n) hv; refine ⟨_, w', ?_, hk β w' (Ext.refl _ _) (by simp) (Stay.set hb rfl) s2 hf v2⟩
       have hmin : Nat.min sl dl = min sl dl := rfl; simp only [Builtin.copy_, ht, SV.ev]; simp only [List.getElem?_toArray, List.getElem?_cons_zero, List.getElem?_cons_succ, Sem.run_bind, run_underlying hu w, aOk, run_lenOf (P := P) hsl w, szOf_run hz w, r1, s1, Sem.run_pure, goInt, v1]
      ·exact hk.elim
     ·exact hk.elim
    ·exact hk.elim
   ·exact hk.elim
  ·exact hk.elim
 ·exact hk.elim
theorem litF_spec (hf : FsOk ρ fs) (s : SV) {n : Nat} : (litF fs s).ev ρ β = s.ev ρ β /\ (s.ok ρ n -> (litF fs s).ok ρ n) := by
 unfold litF; split
 ·rename_i k e
  split
  ·rename_i m hm
   have := canon_ev (ρ := ρ) (fs := fs) hf e; rw [hm] at this; simp only [SV.ev, SV.ok, this]; exact ⟨trivial, id⟩
  ·exact ⟨rfl, id⟩
 ·exact ⟨rfl, id⟩
theorem rowI_run {k z off m : Nat} {len0 len cap : E} {cs : List SV} (hs : Heap ρ w0 M β hp w) (hk : (SV.inp k z off len0 len cap).ok ρ hp.n) (hm : m <= (len.ev ρ).toNat) (h : rowI hp k z off len0 m = some cs) :
  (Builtin.firstCells z m ((SV.inp k z off len0 len cap).ev ρ β)).run P w = .ok (SV.evs ρ β cs).toArray w /\ SV.oks ρ hp.n cs /\ cs.length = m * z /\
   (∀ j v, (SV.evs ρ β cs)[j]? = some v -> w.cell? ((⟨(β k).1, (β k).2 + off, none⟩ : Addr).add j) = some v) := by
 unfold rowI at h; split at h
 ·rename_i rw_ a ks len0' hb
  split at h
  ·rename_i hc
   obtain ⟨hz, hl0, hz0, hoff⟩ := hc; obtain rfl := E.beq_eq _ _ hl0; obtain rfl := sinj h; have hl := hs.lies k _ hb; simp only [Bx.lies] at hl; obtain ⟨k1, k2, k3, k4, k5⟩ := hk; have hod : off / z * z = off := by have := Nat.div_add_mod off z; rw [Nat.mul_comm]; omega
   have key : ∀ j, j < m * z -> ∃ l : Lk, ks[j % z]? = some l /\ w.cell? ⟨(β k).1, (β k).2 + off + j, none⟩ = some (l.val (ρ.rd a (l.code (j % z)) (Int.ofNat (off / z + j / z)))) /\ l.fits (ρ.rd a (l.code (j % z)) (Int.ofNat (off / z + j / z))) := fun j hj => by
    have hjz : j % z < ks.length := by rw [<- hz]; exact Nat.mod_lt _ hz0
    have hjd : j / z < m := Nat.div_lt_of_lt_mul (by rwa [Nat.mul_comm] at hj)
    have h1 : (off / z + j / z + 1) * z <= (len0.ev ρ).toNat * z := by
     have h2 := Nat.mul_le_mul_right z (show j / z + 1 <= (len.ev ρ).toNat by omega)
     rw [Nat.add_mul, Nat.add_mul] at *; omega
    have h3 : off / z + j / z < (len0.ev ρ).toNat := Nat.le_of_mul_le_mul_right h1 hz0; refine ⟨ks[j % z], by simp [hjz], ?_⟩
    have := hl (off / z + j / z) (j % z) ks[j % z] h3 (by simp [hjz])
    have e1 : (β k).2 + ((off / z + j / z) * ks.length + j % z) = (β k).2 + off + j := by
     rw [<- hz, Nat.add_mul, hod]; have := Nat.div_add_mod j z; rw [Nat.mul_comm] at this; omega
    rw [e1] at this; exact this
   have hev : ∀ (β' : Bm) (j : Nat), j < m * z -> ∃ s : SV, ((List.range (m * z)).map fun j => match ks[j % z]? with
     | some l => l.rd a (j % z) (.lit (Int.ofNat (off / z + j / z)))
     | none => undefS)[j]? = some s /\ w.cell? ⟨(β k).1, (β k).2 + off + j, none⟩ = some (s.ev ρ β') /\ s.ok ρ hp.n := fun β' j hj => by
    obtain ⟨l, h1, h2, h3⟩ := key j hj; obtain ⟨r1, r2⟩ := rd_spec (ρ := ρ) (β := β') (n := hp.n) (l := l) (a := a) (f := j % z) (i := .lit (Int.ofNat (off / z + j / z))) h3; exact ⟨_, by rw [lMp, lRa hj]; simp only [Option.map_some, h1], by rw [r1]; exact h2, r2⟩
   have hcell : ∀ j v, (SV.evs ρ β ((List.range (m * z)).map fun j => match ks[j % z]? with
     | some l => l.rd a (j % z) (.lit (Int.ofNat (off / z + j / z)))
     | none => undefS))[j]? = some v -> w.cell? ((⟨(β k).1, (β k).2 + off, none⟩ : Addr).add j) = some v := fun j v hv => by
    have hj : j < m * z := by
     have := (lSo.1 hv).1; rw [SV.evs_map] at this
     simpa using this
    obtain ⟨s, h1, h2, _⟩ := hev β j hj; rw [SV.evs_map, lMp, h1] at hv; obtain rfl := sinj hv; rw [add_lit]; exact h2
   refine ⟨?_, ?_, by simp, hcell⟩
   ·simp only [SV.ev]
    exact run_firstCells_some w z m _ _ _ _ (by rw [SV.evs_map]; simp) hcell
   ·rw [SV.oks_mem]
    intro s hs; obtain ⟨j, hj, he⟩ := List.getElem_of_mem hs; have hj' : j < m * z := by simpa using hj
    obtain ⟨s', h1, _, h3⟩ := hev β j hj'; rw [lGe hj] at h1; obtain rfl := sinj h1; rw [<- he]; exact h3
  ·cases h
 ·cases h
theorem rowX_run {x : SV} {cs : List SV} {m z : Nat} (hs : Heap ρ w0 M β hp w) (hf : ∀ p ∈ fs, (p.1.ev ρ ≠ 0 ↔ p.2 = true)) (hx : x.ok ρ hp.n) (hm : lenX fs x = some m) (h : rowX hp m z x = some cs) :
  (Builtin.firstCells z m (x.ev ρ β)).run P w = .ok (SV.evs ρ β cs).toArray w /\ SV.oks ρ hp.n cs /\ cs.length = m * z /\ (Builtin.lenOf (x.ev ρ β)).run P w = .ok m w /\
  (0 < m * z -> ∃ a c, x.ev ρ β = .slice (some a) m c /\ ∀ j v, (SV.evs ρ β cs)[j]? = some v -> w.cell? (a.add j) = some v) := by
 have plain : ∀ x : SV, lenS x = some m -> rowS hp m z x = some cs -> (Builtin.firstCells z m (x.ev ρ β)).run P w = .ok (SV.evs ρ β cs).toArray w /\ SV.oks ρ hp.n cs /\ cs.length = m * z /\ (Builtin.lenOf (x.ev ρ β)).run P w = .ok m w /\
   (0 < m * z -> ∃ a c, x.ev ρ β = .slice (some a) m c /\ ∀ j v, (SV.evs ρ β cs)[j]? = some v -> w.cell? (a.add j) = some v) := fun x hm h => by
  obtain ⟨q1, q2, q3, q4⟩ := rowS_run (P := P) hs h; refine ⟨q1, q2, q3, run_lenOf hm w, fun hpos => ?_⟩
  rcases lenS_spec hm with ⟨c, rfl⟩ | ⟨b, off, c, rfl⟩
  ·exfalso
   simp only [rowS] at h; split at h
   ·rename_i h0; rw [h0] at hpos; omega
   ·cases h
  ·exact ⟨_, _, rfl, q4 b off m c rfl⟩
 unfold lenX at hm; unfold rowX at h; split at hm
 ·rename_i k z' off len0 len cap
  split at hm
  ·rename_i m' hcn
   obtain rfl := sinj hm
   have hlen : (len.ev ρ).toNat = m' := by
    have := canon_ev (ρ := ρ) (fs := fs) hf len; rw [hcn] at this; rw [<- this]; rfl
   simp only at h; split at h
   ·rename_i hz
    subst hz; obtain ⟨r1, r2, r3, r4⟩ := rowI_run (P := P) hs hx (by rw [hlen]; exact Nat.le_refl _) h
    refine ⟨r1, r2, r3, ?_, fun _ => ⟨⟨(β k).1, (β k).2 + off, none⟩, (cap.ev ρ).toNat, ?_, r4⟩⟩
    ·simp only [SV.ev, hlen]; rfl
    ·simp only [SV.ev, hlen]
   ·cases h
  ·cases hm
 ·rename_i x hx'
  split at h
  ·rename_i k z' off len0 len cap
   exact absurd rfl (hx' k z' off len0 len cap)
  ·exact plain _ hm h
theorem copyI_run {ts : Array TypeId} {d : SV} {k z off : Nat} {len0 len cap : E} {K : Value -> World -> Prop} (h : Heap ρ w0 M β hp w) (hf : ∀ p ∈ fs, (p.1.ev ρ ≠ 0 ↔ p.2 = true)) (hs : (SV.inp k z off len0 len cap).ok ρ hp.n) (ty : TypeId) (hk : Goes ρ w0 M β hp (copyI P hp fs ts d k z off len0 len) K) :
  ∃ v w', (Builtin.copy_ ts ty #[d.ev ρ β, (SV.inp k z off len0 len cap).ev ρ β]).run P w = .ok v w' /\ K v w' := by
 unfold copyI at hk; split at hk
 ·rename_i t sl ht hcn
  have hlen : (len.ev ρ).toNat = sl := by
   have := canon_ev (ρ := ρ) (fs := fs) hf len; rw [hcn] at this; rw [<- this]; rfl
  split at hk
  ·rename_i e b off' dl cap' hu
   split at hk
   ·rename_i z' hz
    split at hk
    ·rename_i cs c ty' tail hcs hb
     split at hk
     ·rename_i hcond
      obtain ⟨rfl, hcond⟩ := hcond; split at hk
      ·rename_i v hv
       obtain ⟨r1, r2, r3, _⟩ := rowI_run (P := P) h hs (by rw [hlen]; exact Nat.min_le_left _ _) hcs
       obtain ⟨w', s1, s2⟩ := Heap.store (P := P) h hb rfl hcond.1 (fun x hx => lAl.1 hcond.2 x hx) r2
       obtain ⟨v1, v2⟩ := intLit_spec (ρ := ρ) (β := β) (n := (hp.put b ⟨true, .cells (splice c cs off') ty' tail⟩).n) hv; refine ⟨_, w', ?_, hk β w' (Ext.refl _ _) (by simp) (Stay.set hb rfl) s2 hf v2⟩
       have hsl : (Builtin.lenOf ((SV.inp k z' off len0 len cap).ev ρ β)).run P w = .ok sl w := by simp only [SV.ev, hlen]; rfl
       simp only [SV.ev] at hsl r1; simp only [Builtin.copy_, ht, SV.ev]; simp only [List.getElem?_toArray, List.getElem?_cons_zero, List.getElem?_cons_succ, Sem.run_bind, run_underlying hu w, aOk, hsl, szOf_run hz w, r1, s1, Sem.run_pure, goInt, v1]
      ·exact hk.elim
     ·exact hk.elim
    ·exact hk.elim
   ·exact hk.elim
  ·exact hk.elim
 ·exact hk.elim
theorem Heap.pushRo {bv : Nat × Nat} {b : Bx} (h : Heap ρ w0 M β hp w) (hv : b.live = false) (hok : b.ok ρ (hp.n + 1)) (hl : b.lies ρ (upd β hp.n bv) bv w) (ha : b.isArr = true -> bv.1 < w0.heap.size /\ ¬ M bv.1) (hao : b.isObj = false := by rfl) :
  Heap ρ w0 M (upd β hp.n bv) (hp.push ⟨false, b⟩) w := by
 have hx := upd_ext β hp.n bv
 have cases_ : ∀ (k : Nat) (x : Box), (hp.push ⟨false, b⟩).at k = some x -> (k < hp.n /\ hp.at k = some x /\ upd β hp.n bv k = β k) \/ (k = hp.n /\ x = ⟨false, b⟩) := fun k x hk => by
  have hlt' := Hp.at_lt hk; simp only [Hp.n_push] at hlt'
  by_cases hlt : k < hp.n
  ·rw [Hp.at_push_lt _ hlt] at hk
   exact .inl ⟨hlt, hk, hx k hlt⟩
  ·obtain rfl : k = hp.n := by omega
   rw [Hp.at_push_n] at hk; exact .inr ⟨rfl, (sinj hk).symm⟩
 refine ⟨fun k x hk => ?_, fun j k x y hj hk hlx hly he => ?_, fun k x hk hr hlx => ?_, fun k x hk => ?_, h.kept, fun k x hk hax => ?_, h.objs_push (.inr (.inr hv)) (fun _ _ _ _ _ _ _ _ => rfl) rfl (fun k x hk _ => hk) hao⟩
 ·rcases cases_ k x hk with ⟨hlt, hk', e⟩ | ⟨rfl, rfl⟩
  ·rw [e]; exact Bx.lies_ext hx (h.good k x hk') (h.lies k x hk')
  ·rw [upd_same]; exact hl
 ·rcases cases_ j x hj with ⟨hlt, hj', e⟩ | ⟨rfl, rfl⟩ <;> rcases cases_ k y hk with ⟨hlt', hk', e'⟩ | ⟨rfl, rfl⟩
  ·rw [e, e'] at he; exact h.inj j k x y hj' hk' hlx hly he
  ·simp only at hly; rw [hv] at hly; cases hly
  ·simp only at hlx; rw [hv] at hlx; cases hlx
  ·rfl
 ·rcases cases_ k x hk with ⟨hlt, hk', e⟩ | ⟨rfl, rfl⟩
  ·rw [e]; exact h.mine k x hk' hr hlx
  ·cases hr
 ·simp only [Hp.n_push]
  rcases cases_ k x hk with ⟨hlt, hk', e⟩ | ⟨rfl, rfl⟩
  ·exact Bx.ok_mono (by omega) (h.good k x hk')
  ·exact hok
 ·rcases cases_ k x hk with ⟨hlt, hk', e⟩ | ⟨rfl, rfl⟩
  ·rw [e]; exact h.arrs k x hk' hax
  ·rw [upd_same]; exact ha hax
theorem cutS_run {t : TypeId} {x : SV} {lo : Option SV} {K : Value -> World -> Prop} (h : Heap ρ w0 M β hp w) (hf : ∀ p ∈ fs, (p.1.ev ρ ≠ 0 ↔ p.2 = true)) (hk : Goes ρ w0 M β hp (cutS P hp fs t x lo) K) :
  ∃ v, (Instr.sliceAt t (x.ev ρ β) (lo.map (SV.ev ρ β)) none none).run P w = .ok v w /\ K v w := by
 unfold cutS at hk; split at hk
 ·rename_i e b len hu
  split at hk
  ·rename_i z r c ty s l hz hb hl
   split at hk
   ·rename_i hc
    obtain ⟨rfl, c3, c4⟩ := hc; have hbl := Hp.at_lt hb; obtain ⟨rest, r1, r2⟩ := h.lies _ _ hb
    have hcap : len <= (β b).2 := by
     have h1 : len * s <= (β b).2 * s := by rw [<- r2, c3]; omega
     exact Nat.le_of_mul_le_mul_right h1 c4
    have hx := upd_ext β hp.n ((β b).1, (β b).2 - l)
    have hpush : Heap ρ w0 M (upd β hp.n ((β b).1, (β b).2 - l)) (hp.push ⟨false, .view b l⟩) w := h.pushRo (bv := ((β b).1, (β b).2 - l)) (b := .view b l) rfl (show b < hp.n + 1 by omega) (by
     show _ = _ /\ _ = _; rw [hx b hbl]; exact ⟨rfl, rfl⟩) (fun h => by cases h) rfl
    have hb2 := run_bounds (P := P) (ρ := ρ) (β := β) (isSlice := true) (lo := lo) (hi := none) (len := len) (cap := (β b).2) (h := len) rfl hl w; simp only [Option.map_none] at hb2; split at hk
    ·rename_i hlt
     have hK := hk _ w hx (by simp) (Stay.push _ _) hpush hf (by simp [SV.ok])
     refine ⟨_, ?_, hK⟩; simp only [Instr.sliceAt, Instr.slice, Sem.run_bind, run_underlying hu w, aOk, SV.ev, Option.getD_none, hb2, szOf_run hz w, Sem.run_pure, upd_same]; rw [if_neg (by omega)]
     simp [add_lit]
    ·split at hk
     ·rename_i hle
      subst hle; obtain ⟨k1, k2⟩ := hk
      by_cases he : (β b).2 = l
      ·have hK := k1 _ w hx (by simp) (Stay.push _ _) hpush hf (by simp [SV.ok])
       refine ⟨_, ?_, hK⟩; simp only [Instr.sliceAt, Instr.slice, Sem.run_bind, run_underlying hu w, aOk, SV.ev, Option.getD_none, hb2, szOf_run hz w, Sem.run_pure, upd_same]; rw [if_pos (by omega)]
       simp
      ·have hK := k2 _ w hx (by simp) (Stay.push _ _) hpush hf (by simp [SV.ok])
       refine ⟨_, ?_, hK⟩; simp only [Instr.sliceAt, Instr.slice, Sem.run_bind, run_underlying hu w, aOk, SV.ev, Option.getD_none, hb2, szOf_run hz w, Sem.run_pure, upd_same]; rw [if_neg (by omega)]
       simp [add_lit]
     ·exact hk.elim
   ·exact hk.elim
  ·exact hk.elim
 ·exact hk.elim
theorem sliceH_run {t : TypeId} {x r : SV} {lo hi : Option SV} (hh : Heap ρ w0 M β hp w) (hx : x.ok ρ hp.n) (h : sliceH P hp t x lo hi = some r) :
  (Instr.sliceAt t (x.ev ρ β) (lo.map (SV.ev ρ β)) (hi.map (SV.ev ρ β)) none).run P w = .ok (r.ev ρ β) w /\ r.ok ρ hp.n := by
 unfold sliceH at h; split at h
 ·rename_i b len y
  split at h
  ·rename_i e hu
   split at h
   ·rename_i z r' c ty s h' hz hb hy
    split at h
    ·rename_i hc
     obtain ⟨c1, rfl, c3, c4⟩ := hc; obtain rfl := sinj h; obtain ⟨rest, r1, r2⟩ := hh.lies _ _ hb
     have hcap : len <= (β b).2 := by
      have h1 : len * s <= (β b).2 * s := by rw [<- r2, c3]; omega
      exact Nat.le_of_mul_le_mul_right h1 c4
     refine ⟨?_, hx⟩
     have hb2 := run_bounds (P := P) (ρ := ρ) (β := β) (isSlice := true) (lo := none) (hi := some y) (len := len) (cap := (β b).2) (h := h') (l := 0) (by
      simp only [boundS, hy]; rw [if_pos (by omega)]) rfl w
     simp only [Option.map_none] at hb2; simp only [Instr.sliceAt, Instr.slice, Sem.run_bind, run_underlying hu w, aOk, SV.ev, Option.getD_none, Option.map_none, hb2, szOf_run hz w, Sem.run_pure]; split <;> simp [add_lit]
    ·cases h
   ·cases h
  ·cases h
 ·have := sliceS_run (P := P) (β := β) hx h w
  simpa using this
theorem cells_tail {c : List SV} {ty : TypeId} {s : Nat} {b : Nat × Nat} (rest : List Value) (h : w.heap[b.1]? = some (.cells (SV.evs ρ β c ++ rest).toArray ty (0, 0))) (hl : c.length + rest.length = b.2 * s) : (Bx.cells c ty (s + 1)).lies ρ β b w := ⟨rest, h, hl⟩
theorem lenX_slice {x : SV} {m z : Nat} {cs : List SV} (hf : ∀ p ∈ fs, (p.1.ev ρ ≠ 0 ↔ p.2 = true)) (hm : lenX fs x = some m) (h0 : 0 < m) (h : rowX hp m z x = some cs) : ∃ a c, x.ev ρ β = .slice (some a) m c := by
 have plain : ∀ x : SV, lenS x = some m -> rowS hp m z x = some cs -> ∃ a c, x.ev ρ β = .slice (some a) m c := fun x hm h => by
  rcases lenS_spec hm with ⟨c, rfl⟩ | ⟨b, off, c, rfl⟩
  ·exfalso
   simp only [rowS] at h; rw [if_neg (by omega)] at h
   cases h
  ·exact ⟨_, _, rfl⟩
 unfold lenX at hm; unfold rowX at h; split at hm
 ·rename_i k z' off len0 len cap
  split at hm
  ·rename_i m' hcn
   obtain rfl := sinj hm
   have hlen : (len.ev ρ).toNat = m' := by
    have := canon_ev (ρ := ρ) (fs := fs) hf len; rw [hcn] at this; rw [<- this]; rfl
   exact ⟨⟨(β k).1, (β k).2 + off, none⟩, (cap.ev ρ).toNat, by simp only [SV.ev, hlen]⟩
  ·cases hm
 ·rename_i x hx'
  split at h
  ·rename_i k z' off len0 len cap
   exact absurd rfl (hx' k z' off len0 len cap)
  ·exact plain _ hm h
theorem appendS_run {ts : Array TypeId} {s x : SV} {K : Value -> World -> Prop} (h : Heap ρ w0 M β hp w) (hf : ∀ p ∈ fs, (p.1.ev ρ ≠ 0 ↔ p.2 = true)) (ty0 : TypeId) (hts : ts.size = 2) (hs : s.ok ρ hp.n) (hx : x.ok ρ hp.n) (hk : Goes ρ w0 M β hp (appendS P hp fs ts s x) K) :
  ∃ v w', (Builtin.append_ ts ty0 #[s.ev ρ β, x.ev ρ β]).run P w = .ok v w' /\ K v w' := by
 unfold appendS at hk; split at hk
 ·rename_i t u n m ht hu' hn hm
  split at hk
  ·rename_i htu
   subst htu
   have hts' : ts = #[t, t] := by
    apply Array.ext_getElem?; intro i
    match i with
    | 0 => simpa using ht
    | 1 => simpa using hu'
    | i + 2 => rw [Array.getElem?_eq_none (by omega)]; simp
   subst hts'; split at hk
   ·rename_i e hu
    split at hk
    ·rename_i i z hi hz
     split at hk
     ·rename_i olds news holds hnews
      split at hk
      ·rename_i hm0
       subst hm0; obtain ⟨q1, q2, q3, ql, q4⟩ := rowX_run (P := P) h hf hx hm hnews; have hnn : news = [] := List.eq_nil_of_length_eq_zero (by simpa using q3)
       subst hnn; split at hk
       ·refine ⟨_, w, ?_, hk β w (Ext.refl _ _) (Nat.le_refl _) (Stay.refl _) h hf hs⟩
        simp [Builtin.append_, run_underlying hu w, sizeOf, typeInfo, hi, SV.ev, ql, q1, SV.evs]
       ·rename_i b off l cap
        split at hk
        ·rename_i hle
         refine ⟨_, w, ?_, hk β w (Ext.refl _ _) (Nat.le_refl _) (Stay.refl _) h hf hs⟩; simp [Builtin.append_, run_underlying hu w, sizeOf, typeInfo, hi, SV.ev, ql, q1, SV.evs, hle, storeCells]
        ·exact hk.elim
       ·rename_i b off l
        split at hk
        ·rename_i rw' c ty' tl hb
         split at hk
         ·rename_i hc3
          obtain ⟨hc1, hc2⟩ := hc3; have hlies := h.lies _ _ hb; obtain ⟨rest, _, hlen⟩ := hlies; have hle : l <= (β b).2 := Nat.le_of_mul_le_mul_right (show l * tl <= (β b).2 * tl by omega) hc1
          refine ⟨_, w, ?_, hk β w (Ext.refl _ _) (Nat.le_refl _) (Stay.refl _) h hf hs⟩; simp [Builtin.append_, run_underlying hu w, sizeOf, typeInfo, hi, SV.ev, ql, q1, SV.evs, hle, storeCells]
         ·exact hk.elim
        ·exact hk.elim
       ·exact hk.elim
      rename_i hm0'; split at hk
      ·rename_i hcond
       obtain ⟨hzl, hm0, hnm, hby⟩ := hcond; obtain ⟨⟨i', zv, hi', hzv, hc1⟩, hok⟩ := zeroS_spec hz; obtain rfl : i = i' := by rw [hi] at hi'; exact sinj hi'
       obtain ⟨o1, o2, o3, o4⟩ := rowS_run (P := P) h holds; obtain ⟨q1, q2, q3, ql, q4⟩ := rowX_run (P := P) h hf hx hm hnews
       have hxs : ∃ a c, x.ev ρ β = .slice (some a) m c /\ ∀ j v, (SV.evs ρ β news)[j]? = some v -> w.cell? (a.add j) = some v := by
        by_cases hpos : 0 < m * i.size
        ·exact q4 hpos
        ·have hnil : news = [] := List.eq_nil_of_length_eq_zero (by omega)
         obtain ⟨a, c, he⟩ := lenX_slice (ρ := ρ) (β := β) hf hm hm0 hnews; exact ⟨a, c, he, fun j v hv => by rw [hnil] at hv; simp [SV.evs] at hv⟩
       obtain ⟨xa, xc, hxe, qn⟩ := hxs; rw [hxe] at q1 ql ⊢; have hnl : (SV.evs ρ β news).length = m * i.size := by rw [SV.evs_map]; simpa using q3
       have hol : (SV.evs ρ β olds).length = n * i.size := by rw [SV.evs_map]; simpa using o3
       have hzc : zv.cells.size = i.size := by rw [hc1 ρ β]; rw [SV.evs_map]; simpa using hzl
       have hzz : ∀ k : Nat, (Builtin.zeroCells zv.cells k).toList.length = k * i.size := fun k => by simp [Builtin.zeroCells, hzc]
       have capge : ∀ (w : World) (need old : Nat), need < 2 ^ 63 -> need <= grownCap w need old e := fun w need old _ => by simp only [grownCap, Question.cut]; omega
       split at hk
       ·have hn0 : n = 0 := by
         rcases lenS_spec hn with ⟨c, he⟩ | ⟨_, _, _, he⟩
         ·simp only [SV.raw.injEq, Value.slice.injEq] at he; exact he.2.1.symm
         ·cases he
        subst hn0; simp only [Nat.zero_add] at hby; have hrun := run_append_nil (P := P) w t ty0 e i zv hu hi hzv xa m xc (SV.evs ρ β news) hnl qn hm0 (by omega) (by omega)
        refine ⟨_, _, hrun, ?_⟩; have hdr : Below w.heap.size w w.drew := (Below.refl _ _).drew
        have hh := (h.below hdr).alloc (c := grownCap w m 0 e) (b := .cells news e (i.size + 1)) (o := .cells ((SV.evs ρ β news).toArray ++ Builtin.zeroCells zv.cells (grownCap w m 0 e - m)) e) (SV.oks_mono (Nat.le_succ _) _ q2) (by
         refine cells_tail (Builtin.zeroCells zv.cells (grownCap w m 0 e - m)).toList ?_ ?_
         ·rw [SV.evs_ext (upd_ext _ _ _) news q2]
          rw [heap_alloc_new]; congr 2; apply Array.ext'; simp
         ·rw [q3, hzz]
          have := capge w m 0 (by omega)
          show m * i.size + (grownCap w m 0 e - m) * i.size = grownCap w m 0 e * i.size; rw [<- Nat.add_mul]; congr 1; omega)
        have := hk _ _ (upd_ext _ _ _) (by simp) (Stay.push _ _) hh hf (by simp [SV.ok])
        simpa [SV.ev, upd_same] using this
       ·rename_i b off l cap
        have hln : l = n := by
         rcases lenS_spec hn with ⟨c, he⟩ | ⟨_, _, _, he⟩
         ·cases he
         ·simp only [SV.slice.injEq] at he; exact he.2.2.1
        subst hln; split at hk
        ·rename_i hroom
         split at hk
         ·rename_i c ty tail hb
          split at hk
          ·rename_i hc2
           obtain ⟨w', s1, s2⟩ := Heap.store (P := P) h hb rfl hc2.1 (fun y hy => lAl.1 hc2.2 y hy) q2
           refine ⟨_, w', ?_, hk β w' (Ext.refl _ _) (by simp) (Stay.set hb rfl) s2 hf (by simpa [SV.ok] using hs)⟩
           simp [Builtin.append_, run_underlying hu w, sizeOf, typeInfo, hi, Builtin.lenOf, SV.ev, hroom, q1, add_lit, s1]
          ·exact hk.elim
         ·exact hk.elim
        ·rename_i hroom
         have oo := o4 b off l (some cap) rfl; have hrun := run_append_grow (P := P) w t ty0 e i zv hu hi hzv ⟨(β b).1, off, none⟩ l cap (SV.evs ρ β olds) hol oo xa m xc (SV.evs ρ β news) hnl qn (by omega) (by omega) (growslice_fits (by omega) (by omega))
         refine ⟨_, _, hrun, ?_⟩; have hdr : Below w.heap.size w w.drew := (Below.refl _ _).drew; have hno : SV.oks ρ hp.n (olds ++ news) := by rw [SV.oks_mem] at *; intro y hy; rcases List.mem_append.1 hy with hy | hy; exact o2 y hy; exact q2 y hy
         have hh := (h.below hdr).alloc (c := grownCap w (l + m) cap e) (b := .cells (olds ++ news) e (i.size + 1)) (o := .cells ((SV.evs ρ β olds).toArray ++ (SV.evs ρ β news).toArray ++ Builtin.zeroCells zv.cells (grownCap w (l + m) cap e - (l + m))) e) (SV.oks_mono (Nat.le_succ _) _ hno) (by
          refine cells_tail (Builtin.zeroCells zv.cells (grownCap w (l + m) cap e - (l + m))).toList ?_ ?_
          ·rw [SV.evs_ext (upd_ext _ _ _) _ hno]
           rw [heap_alloc_new]; congr 2; apply Array.ext'; simp [SV.evs_map]
          ·rw [hzz]
           have := capge w (l + m) cap (by omega)
           show (olds ++ news).length + (grownCap w (l + m) cap e - (l + m)) * i.size = grownCap w (l + m) cap e * i.size; rw [List.length_append, o3, q3, <- Nat.add_mul, <- Nat.add_mul]; congr 1; omega)
         have := hk _ _ (upd_ext _ _ _) (by simp) (Stay.push _ _) hh hf (by simp [SV.ok])
         simpa [SV.ev, upd_same] using this
       ·rename_i b off l
        have hln : l = n := by
         rcases lenS_spec hn with ⟨c, he⟩ | ⟨_, _, _, he⟩
         ·cases he
         ·simp only [SV.slice.injEq] at he; exact he.2.2.1
        subst hln; split at hk
        ·rename_i c ty tail hb
         split at hk
         ·rename_i hc2
          obtain ⟨rfl, rfl, rfl, hcl, hones⟩ := hc2; have hl0 := h.lies _ _ hb; obtain ⟨rest, hg, hlen⟩ := hl0; have hgood : SV.oks ρ hp.n c := h.good _ _ hb
          have hoc : olds = c := by
           simp only [rowS, cellsAt, hb] at holds; split at holds
           ·obtain rfl := sinj holds
            rw [List.drop_zero, List.take_of_length_le (by omega)]
           ·cases holds
          subst hoc; have hno : SV.oks ρ hp.n (olds ++ news) := by rw [SV.oks_mem] at *; intro y hy; rcases List.mem_append.1 hy with hy | hy; exact hgood y hy; exact q2 y hy
          have hbl : b < hp.n := Hp.at_lt hb; have hstay : Stay hp ((hp.put b ⟨false, .gone⟩).push ⟨true, .cells (olds ++ news) ty (i.size + 1)⟩) := (Stay.set hb rfl).trans (Stay.push _ _)
          by_cases hroom : l + m <= (β b).2
          ·have hroom2 : (l + m) * i.size <= (β b).2 * i.size := Nat.mul_le_mul_right _ hroom
           have hrl : news.length <= rest.length := by rw [Nat.add_mul] at hroom2; omega
           have hev : (SV.evs ρ β olds).length = olds.length := by rw [SV.evs_map]; simp
           have hevn : (SV.evs ρ β news).length = news.length := by rw [SV.evs_map]; simp
           have hones' : ∀ v ∈ SV.evs ρ β news, v.oneCell' = true := fun v hv => by
            rw [SV.evs_map] at hv; obtain ⟨y, hy, rfl⟩ := List.mem_map.1 hv; exact SV.one_ev ρ β (lAl.1 hones y hy)
           obtain ⟨w', r1, r2, r3, r4, r5, r6, r7⟩ := run_store_mid (P := P) (β b).1 ty (SV.evs ρ β news) (l * i.size) 0 (SV.evs ρ β olds ++ rest) w hg (by simp only [List.length_append]; omega) hones'
           have hsp : spliceV (SV.evs ρ β olds ++ rest) (SV.evs ρ β news) (l * i.size + 0) = SV.evs ρ β (olds ++ news) ++ rest.drop news.length := by
            unfold spliceV; rw [Nat.add_zero, List.take_append_of_le_length (by omega), List.take_of_length_le (by omega), List.drop_append, List.drop_eq_nil_of_le (by omega)]
            simp only [List.nil_append]; rw [hevn, hev, hcl, show l * i.size + news.length - l * i.size = news.length by omega]
            simp [SV.evs_map]
           rw [hsp] at r2; have hwr := h.write (c := .cells (olds ++ news) ty (i.size + 1)) hb rfl rfl hno ⟨_, r2, by rw [List.length_append, List.length_drop]; omega⟩ r3 r4 r5 r6 r7
           have hfg := hwr.forget b
           have hput : ∀ (x y : Box), (hp.put b x).put b y = hp.put b y := fun x y => by
            unfold Hp.put; congr 1
            funext k
            simp only [beq_iff]
            by_cases hkb : k = b <;> simp [hkb]
           rw [hput] at hfg
           have hpush := hfg.push (bv := β b) (b := .cells (olds ++ news) ty (i.size + 1)) (fun j b' hj hv he => by
            by_cases hjb : j = b
            ·subst hjb
             rw [Hp.at_put_same _ hbl] at hj; obtain rfl := sinj hj; cases hv
            ·rw [Hp.at_put_ne _ hjb] at hj
             exact hjb (h.inj j b _ _ hj hb hv rfl he)) (h.mine b _ hb rfl rfl) (SV.oks_mono (by simp) _ hno) (by
            refine cells_tail (rest.drop news.length) ?_ ?_
            ·rw [SV.evs_ext (upd_ext _ _ _) _ (by simpa using hno)]; exact r2
            ·rw [List.length_append, List.length_drop]; omega)
            (h.objs_push (.inl ⟨b, _, hb, rfl, rfl⟩) (fun φ ho k1 x1 i1 hk1 hx1 hi1 => r3 i1 fun e1 => (ho.apart k1 b x1 _ hk1 hb hx1 (fun e2 => by
             rw [e2, hb] at hk1; obtain rfl := sinj hk1; cases hx1) i1 hi1).1 rfl e1.symm) (by simp) (fun k1 x1 hk1 hx1 => by
             by_cases hkb : k1 = b
             ·rw [hkb, Hp.at_put_same _ hbl] at hk1
              obtain rfl := sinj hk1; rcases hx1 with hx1 | hx1 <;> cases hx1
             ·rw [Hp.at_put_ne _ hkb] at hk1; exact hk1))
           simp only [Hp.n_put] at hpush; have hK := hk _ w' (upd_ext _ _ _) (by simp) hstay hpush hf (by simp [SV.ok])
           refine ⟨(SV.slice hp.n 0 (l + m) none).ev ρ (upd β hp.n (β b)), w', ?_, hK⟩
           ·simp [Builtin.append_, run_underlying hu w, sizeOf, typeInfo, hi, Builtin.lenOf, SV.ev, hroom, q1, add_lit, r1, upd_same]
          ·have oo := o4 b 0 l none rfl
           have hrun := run_append_grow (P := P) w t ty0 ty i zv hu hi hzv ⟨(β b).1, 0, none⟩ l (β b).2 (SV.evs ρ β olds) hol oo xa m xc (SV.evs ρ β news) hnl qn (by omega) (by omega) (growslice_fits (by omega) (by omega))
           refine ⟨_, _, hrun, ?_⟩; have hdr : Below w.heap.size w w.drew := (Below.refl _ _).drew
           have hh := ((h.below hdr).forget b).alloc (c := grownCap w (l + m) (β b).2 ty) (b := .cells (olds ++ news) ty (i.size + 1)) (o := .cells ((SV.evs ρ β olds).toArray ++ (SV.evs ρ β news).toArray ++ Builtin.zeroCells zv.cells (grownCap w (l + m) (β b).2 ty - (l + m))) ty) (SV.oks_mono (by simp) _ hno) (by
            refine cells_tail (Builtin.zeroCells zv.cells (grownCap w (l + m) (β b).2 ty - (l + m))).toList ?_ ?_
            ·rw [SV.evs_ext (upd_ext _ _ _) _ (by simpa using hno)]
             rw [heap_alloc_new]; congr 2; apply Array.ext'; simp [SV.evs_map]
            ·rw [hzz]
             have := capge w (l + m) (β b).2 (by omega)
             show (olds ++ news).length + (grownCap w (l + m) (β b).2 ty - (l + m)) * i.size = grownCap w (l + m) (β b).2 ty * i.size; rw [List.length_append, o3, q3, <- Nat.add_mul, <- Nat.add_mul]; congr 1; omega)
           simp only [Hp.n_put] at hh; have := hk _ _ (upd_ext _ _ _) (by simp) hstay hh hf (by simp [SV.ok])
           simpa [SV.ev, upd_same] using this
         ·exact hk.elim
        ·exact hk.elim
       ·exact hk.elim
      ·exact hk.elim
     ·exact hk.elim
    ·exact hk.elim
   ·exact hk.elim
  ·exact hk.elim
 ·exact hk.elim
theorem mapOf_spec {m : SV} {b clock : Nat} {r : Bool} {es : Ents} (h : mapOf hp m = some (b, r, es, clock)) : m = .map b /\ hp.at b = some ⟨r, .map es clock⟩ := by
 unfold mapOf at h; split at h
 ·split at h
  ·rename_i hb
   simp only [sEq, Prod.mk.injEq] at h; obtain ⟨rfl, rfl, rfl, rfl⟩ := h; exact ⟨rfl, hb⟩
  ·cases h
 ·cases h
theorem getObj_map (h : Heap ρ w0 M β hp w) {b clock : Nat} {r : Bool} {es : Ents} (hb : hp.at b = some ⟨r, .map es clock⟩) : (getObj (β b).1).run P w = .ok (.map (es.map (entOf ρ β)).toArray clock) w := by
 have := h.lies _ _ hb; simp only [Bx.lies] at this; simp [getObj, Sem.run, this]
theorem findS_run {kd k : IntKind} {a : E} {f : Fs -> Option (Nat × SV) -> T Out} {Q : Out -> Prop} : ∀ {es : Ents} {i : Nat} {fs : Fs}, (∀ p ∈ fs, (p.1.ev ρ ≠ 0 ↔ p.2 = true)) -> (findS k a f es i fs).holds ρ Q ->
  ∃ (fs' : Fs) (r : Option (Nat × SV)), (∀ p ∈ fs', (p.1.ev ρ ≠ 0 ↔ p.2 = true)) /\ (f fs' r).holds ρ Q /\ Instr.findNow (.int kd) (.int k (a.ev ρ)) (es.map (entOf ρ β)) i = some (r.map fun p => (p.1, p.2.ev ρ β)) /\
   (∀ j v, r = some (j, v) -> i <= j /\ ∃ ke born, es[j - i]? = some (ke, v, born))
 | [], i, fs, hf, h => ⟨fs, none, hf, h, rfl, fun _ _ e => by cases e⟩
 | (ke, v, born) :: es, i, fs, hf, h => by
  cases ke with
  | int j e =>
   simp only [findS] at h; split at h
   ·rename_i hk
    obtain rfl := kTag_inj hk; obtain ⟨fs1, hf1, h1⟩ := split_holds hf h; have hmk : (mk .eq k a e).ev ρ = if a.ev ρ = e.ev ρ then 1 else 0 := by rw [mk_ev]; rfl
    rcases h1 with ⟨hc, h1⟩ | ⟨hc, h1⟩
    ·have heq : a.ev ρ = e.ev ρ := by
      by_cases he : a.ev ρ = e.ev ρ
      ·exact he
      ·rw [hmk, if_neg he] at hc; exact absurd rfl hc
     refine ⟨fs1, some (i, v), hf1, h1, ?_, fun j' v' e' => ?_⟩
     ·simp [Instr.findNow, entOf, SV.ev, Instr.sameNow, heq]
     ·simp only [sEq, Prod.mk.injEq] at e'
      obtain ⟨rfl, rfl⟩ := e'; exact ⟨Nat.le_refl _, .int k e, born, by simp⟩
    ·have hne : ¬ a.ev ρ = e.ev ρ := fun he => by rw [hmk, if_pos he] at hc; cases hc
     obtain ⟨fs2, r, q1, q2, q3, q4⟩ := findS_run (kd := kd) (es := es) (i := i + 1) hf1 h1; refine ⟨fs2, r, q1, q2, ?_, fun j' v' e' => ?_⟩
     ·have hb : (a.ev ρ == e.ev ρ) = false := by simpa using hne
      simp only [List.map_cons, Instr.findNow, entOf, SV.ev, Instr.sameNow, if_true, hb]; exact q3
     ·obtain ⟨g1, ke', b', g2⟩ := q4 j' v' e'
      refine ⟨by omega, ke', b', ?_⟩
      rw [show j' - i = (j' - (i + 1)) + 1 by omega, List.getElem?_cons_succ]
      exact g2
   ·exact h.elim
  | _ => exact h.elim
theorem run_checkKey_succ {t : TypeId} {kd : IntKind} (hu : P.underlying t = some (.int kd)) (e : Bool) (n : Nat) (k : IntKind) (x : Int) (w : World) : (Instr.checkKey e (n + 1) t (.int k x)).run P w = .ok () w := by
 simp [Instr.checkKey, run_underlying hu w]
theorem run_checkKey_int {t : TypeId} {kd : IntKind} (hu : P.underlying t = some (.int kd)) (e : Bool) (k : IntKind) (x : Int) (w : World) : (Instr.checkKey e 10000 t (.int k x)).run P w = .ok () w := run_checkKey_succ hu e 9999 k x w
theorem lookupS_run {t : TypeId} {m key : SV} {ok : Bool} {K : Value -> World -> Prop} (h : Heap ρ w0 M β hp w) (hf : ∀ p ∈ fs, (p.1.ev ρ ≠ 0 ↔ p.2 = true)) (hk : Goes ρ w0 M β hp (lookupS P hp fs t m key ok) K) :
  ∃ v w', (Instr.lookup t (m.ev ρ β) (key.ev ρ β) ok).run P w = .ok v w' /\ K v w' := by
 unfold lookupS at hk; split at hk
 ·rename_i kt et b r es clock k a hu hm
  obtain ⟨rfl, hb⟩ := mapOf_spec hm; split at hk
  ·rename_i kd i hkt hi
   split at hk
   ·rename_i z hz
    obtain ⟨fs', res, q1, q2, q3, q4⟩ := findS_run (β := β) (kd := kd) hf hk; have hgood : ∀ e ∈ es, e.1.ok ρ hp.n /\ e.2.1.ok ρ hp.n := h.good _ _ hb
    have hrun : (Instr.findKey kt (.int k (a.ev ρ)) (es.map (entOf ρ β))).run P w = .ok (res.map fun p => (p.1, p.2.ev ρ β)) w := by
     simp [Instr.findKey, run_underlying hkt w, q3]
    refine ⟨_, w, ?_, q2 β w (Ext.refl _ _) (Nat.le_refl _) (Stay.refl _) h q1 ?_⟩
    ·simp only [Instr.lookup, Sem.run_bind, run_underlying hu w, aOk, SV.ev, getObj_map h hb, Sem.run_pure, run_checkKey_int hkt, hrun]
     cases res with
     | none => cases ok <;> simp [zeroValue, typeInfo, hi, hz, SV.ev, SV.evs, ofValue_ev, E.ev]
     | some p => obtain ⟨j, v⟩ := p; cases ok <;> simp [SV.ev, SV.evs, E.ev]
    ·cases res with
     | none => cases ok <;> simp [SV.ok, SV.oks, ofValue_ok]
     | some p =>
      obtain ⟨j, v⟩ := p; obtain ⟨_, ke, born, hj⟩ := q4 j v rfl; have := (hgood _ (List.mem_of_getElem? hj)).2; cases ok <;> simpa [SV.ok, SV.oks] using this
   ·exact hk.elim
  ·exact hk.elim
 ·exact hk.elim
theorem updateS_run {t : TypeId} {m key x : SV} {K : Value -> World -> Prop} (h : Heap ρ w0 M β hp w) (hf : ∀ p ∈ fs, (p.1.ev ρ ≠ 0 ↔ p.2 = true)) (hkey : key.ok ρ hp.n) (hx : x.ok ρ hp.n) (hk : Goes ρ w0 M β hp (updateS P hp fs t m key x) K) :
  ∃ w', (Instr.mapUpdate t (m.ev ρ β) (key.ev ρ β) (x.ev ρ β)).run P w = .ok () w' /\ K undef w' := by
 unfold updateS at hk; split at hk
 ·rename_i kt et b es clock k a hu hm
  obtain ⟨rfl, hb⟩ := mapOf_spec hm; split at hk
  ·rename_i kd hkt
   obtain ⟨fs', res, q1, q2, q3, q4⟩ := findS_run (β := β) (kd := kd) hf hk; have hgood : ∀ e ∈ es, e.1.ok ρ hp.n /\ e.2.1.ok ρ hp.n := h.good _ _ hb
   have hrun : (Instr.findKey kt (.int k a) (es.map (entOf ρ β))).run P w = .ok (res.map fun p => (p.1, p.2.ev ρ β)) w := by
    simp only [E.ev] at q3; simp [Instr.findKey, run_underlying hkt w, q3]
   have hl := h.lies _ _ hb; simp only [Bx.lies] at hl
   have hset : ∀ (es' : Ents) (c' : Nat), (setObj (β b).1 (.map (es'.map (entOf ρ β)).toArray c')).run P w = .ok () { w with heap := w.heap.setIfInBounds (β b).1 (.map (es'.map (entOf ρ β)).toArray c') } := fun es' c' => by
    simp [setObj, Sem.run, hl]
   have hlt : (β b).1 < w.heap.size := (Array.getElem?_eq_some_iff.1 hl).1
   have hwr : ∀ (es' : Ents) (c' : Nat), (∀ e ∈ es', e.1.ok ρ hp.n /\ e.2.1.ok ρ hp.n) -> Heap ρ w0 M β (hp.put b ⟨true, .map es' c'⟩) { w with heap := w.heap.setIfInBounds (β b).1 (.map (es'.map (entOf ρ β)).toArray c') } := fun es' c' hes => by
    refine h.write (c := .map es' c') hb rfl rfl hes ?_ (fun i hi => ?_) (by simp) rfl rfl rfl
    ·simp only [Bx.lies]; simp [hlt]
    ·simp [Array.getElem?_setIfInBounds_ne (Ne.symm hi)]
   cases res with
   | none =>
    have hes : ∀ e ∈ es ++ [(.int k (.lit a), x, clock)], SV.ok ρ hp.n e.1 /\ SV.ok ρ hp.n e.2.1 := fun e he => by
     rcases List.mem_append.1 he with he | he
     ·exact hgood e he
     ·obtain rfl : e = (.int k (.lit a), x, clock) := by simpa using he
      exact ⟨hkey, hx⟩
    refine ⟨_, ?_, q2 β _ (Ext.refl _ _) (by simp) (Stay.set hb rfl) (hwr _ _ hes) q1 trivial⟩
    simp only [Instr.mapUpdate, Sem.run_bind, run_underlying hu w, aOk, SV.ev, getObj_map h hb, run_checkKey_int hkt, E.ev, hrun, Option.map_none]; rw [<- hset]; congr 2; simp [entOf, SV.ev, E.ev]
   | some p =>
    obtain ⟨j, v⟩ := p; simp only at q2; split at q2
    ·rename_i jk a' v' born hj
     split at q2
     ·rename_i hc
      obtain ⟨hc1, rfl⟩ := hc; obtain rfl := kTag_inj hc1
      have hes : ∀ e ∈ es.set j (.int k (.lit a), x, born), SV.ok ρ hp.n e.1 /\ SV.ok ρ hp.n e.2.1 := fun e he => by
       rcases List.mem_or_eq_of_mem_set he with he | rfl
       ·exact hgood e he
       ·exact ⟨hkey, hx⟩
      refine ⟨_, ?_, q2 β _ (Ext.refl _ _) (by simp) (Stay.set hb rfl) (hwr _ _ hes) q1 trivial⟩
      have hje : (es.map (entOf ρ β)).toArray[j]? = some { key := .int k a, val := v'.ev ρ β, born := born } := by
       rw [List.getElem?_toArray, lMp, hj]; rfl
      simp only [Instr.mapUpdate, Sem.run_bind, run_underlying hu w, aOk, SV.ev, getObj_map h hb, run_checkKey_int hkt, E.ev, hrun, Option.map_some, hje, Option.getD_some, Instr.keyThatStays, Instr.sameBits, beq_self_eq_true, Bool.and_self, if_true, Sem.run_pure]; rw [<- hset]; congr 3; apply Array.ext_getElem?; intro i; rw [Array.getElem?_modify, List.getElem?_toArray, List.getElem?_toArray, lMp, lMp, List.getElem?_set]
      by_cases hij : j = i
      ·subst hij
       have hjl := (lSo.1 hj).1; have hje2 := (lSo.1 hj).2; simp [hj, hjl, hje2, entOf, SV.ev, E.ev]
      ·simp [hij]
     ·exact q2.elim
    ·exact q2.elim
  ·exact hk.elim
 ·exact hk.elim
theorem makeMapS_run {K : Value -> World -> Prop} (h : Heap ρ w0 M β hp w) (hf : ∀ p ∈ fs, (p.1.ev ρ ≠ 0 ↔ p.2 = true)) (hk : Goes ρ w0 M β hp (makeMapS hp fs) K) : K (.map (some w.heap.size)) (w.alloc (.map #[] 0)) := by
 have hh := h.alloc (c := 0) (b := .map [] 0) (o := .map #[] 0) (fun e he => by cases he) (by simp only [Bx.lies]; rw [heap_alloc_new]; rfl)
 have := hk _ _ (upd_ext _ _ _) (by simp) (Stay.push _ _) hh hf (by simp [SV.ok])
 simpa [SV.ev, upd_same] using this
theorem mapLenS_run {ts : Array TypeId} {m : SV} {K : Value -> World -> Prop} (h : Heap ρ w0 M β hp w) (hf : ∀ p ∈ fs, (p.1.ev ρ ≠ 0 ↔ p.2 = true)) (ty : TypeId) (hk : Goes ρ w0 M β hp (mapLenS P hp fs ts m) K) :
  ∃ v w', (Builtin.len_ ts ty #[m.ev ρ β]).run P w = .ok v w' /\ K v w' := by
 unfold mapLenS at hk; split at hk
 ·rename_i t b r es clock ht hm
  obtain ⟨rfl, hb⟩ := mapOf_spec hm; split at hk
  ·rename_i kt et v hu hv
   obtain ⟨v1, v2⟩ := intLit_spec (ρ := ρ) (β := β) (n := hp.n) hv; refine ⟨_, w, ?_, hk β w (Ext.refl _ _) (Nat.le_refl _) (Stay.refl _) h hf v2⟩; simp [Builtin.len_, ht, run_underlying hu w, SV.ev, getObj_map h hb, goInt, v1]
  ·exact hk.elim
 ·exact hk.elim
end
def effS (P : Program) (call : Caller) (hp : Hp) (fs : Fs) (g : Operand -> SV) (o : Oper) : T Out :=
 match o.op with
 | .alloc e => allocS P hp fs e
 | .box e x => boxS hp fs e (g x)
 | .buildSlice t n ps => buildSliceS P hp fs t n (ps.toList.map fun p => (p.1, g p.2))
 | .store t a x => storeS P hp fs t (g a) (g x)
 | .call { callee := .value f, args := as, .. } => match g f with
  | .func fid u v => call fid (u ++ as.toList.map g ++ v) hp fs
  | _ => .bad 100
 | .pick c a b => match g c with
  | .bool e => split fs e (fun fs => .ok ⟨g a, hp, fs⟩) (fun fs => .ok ⟨g b, hp, fs⟩)
  | _ => .bad 99
 | .makeSlice t l c => makeSliceS P hp fs t (litF fs (g l)) (litF fs (g c))
 | .makeMap _ none => makeMapS hp fs
 | .lookup t m k ok => lookupS P hp fs t (g m) (g k) ok
 | .insert t m k x => updateS P hp fs t (g m) (g k) (g x)
 | .mapUpdate t m k x => updateS P hp fs t (g m) (g k) (g x)
 | .call { callee := .builtin .copy, args := as, argTypes := ts } => match as.toList with
  | [d, s] => match g s with
   | .inp k z off len0 len _ => copyI P hp fs ts (g d) k z off len0 len
   | s => copyS P hp fs ts (g d) s
  | _ => .bad 90
 | .call { callee := .builtin .append, args := as, argTypes := ts } => match as.toList with
  | [s, x] => if ts.size = 2 then appendS P hp fs ts (g s) (g x) else .bad 91
  | _ => .bad 92
 | .call { callee := .builtin .len, args := as, argTypes := ts } => match as.toList with
  | [m] => mapLenS P hp fs ts (g m)
  | _ => .bad 93
 | .load .. => .bad 101
 | .binOp .. => .bad 102
 | .convert .. => .bad 103
 | .fieldAddr .. => .bad 104
 | .indexAddr t x i => match g i with
  | .int k e => concT fs e fun m fs => match iaddrS P t (g x) (.int k (.lit m)) with
   | some r => .ok ⟨r, hp, fs⟩
   | none => .bad 105
  | _ => .bad 105
 | .index t x i => match g i with
  | .int k e => concT fs e fun m fs => match indexS P t (g x) (.int k (.lit m)) with
   | some r => .ok ⟨r, hp, fs⟩
   | none => .bad 106
  | _ => .bad 106
 | .slice t x lo (some y) none => match g y with
  | .int k e => concT fs e fun m fs => match sliceH P hp t (g x) (lo.map g) (some (.int k (.lit m))) with
   | some r => .ok ⟨r, hp, fs⟩
   | none => .bad 107
  | _ => .bad 107
 | .slice t x lo none none => cutS P hp fs t (g x) (lo.map g)
 | .slice .. => .bad 107
 | .call .. => .bad 108
 | .makeMap .. => .bad 110
 | .nilCheck .. => .bad 114
 | .build .. => .bad 115
 | _ => .bad 199
section
variable (P : Program) (ρ : Env) (w0 : World) (M : Nat -> Prop) (gl : Gl)
def GlOk (β : Bm) (n : Nat) : Prop := ∀ p ∈ gl, (β p.2).1 = p.1 /\ p.2 < n
def CallOk (call : Caller) : Prop := ∀ (f : FuncId) (args : List SV) (hp : Hp) (fs : Fs) (β : Bm) (w : World) (K : Value -> World -> Prop), Heap ρ w0 M β hp w -> (∀ p ∈ fs, (p.1.ev ρ ≠ 0 ↔ p.2 = true)) -> SV.oks ρ hp.n args -> GlOk gl β hp.n ->
 Goes ρ w0 M β hp (call f args hp fs) K -> (∀ as w, (callFunc f as).run P w = .ok (.enter f as) w) /\ Calls P f (SV.evs ρ β args).toArray w fun e w' => ∃ v, e = .returned v /\ K v w'
end
section
variable {P : Program} {ρ : Env} {w0 : World} {M : Nat -> Prop} {gl : Gl} {β : Bm} {w : World} {hp : Hp} {fs : Fs}
theorem oks_append {n : Nat} {l m : List SV} (hl : SV.oks ρ n l) (hm : SV.oks ρ n m) : SV.oks ρ n (l ++ m) := by
 rw [SV.oks_mem] at *; intro s hs; rcases List.mem_append.1 hs with h | h
 ·exact hl s h
 ·exact hm s h
theorem evs_append (l m : List SV) : SV.evs ρ β (l ++ m) = SV.evs ρ β l ++ SV.evs ρ β m := by simp [SV.evs_map]
set_option maxHeartbeats 1000000 in
theorem effS_run {call : Caller} (hc : CallOk P ρ w0 M gl call) {g : Operand -> SV} {o : Oper} {a : Act} (hg : ∀ x, (g x).ev ρ β = a.eval x) (hk : ∀ x, (g x).ok ρ hp.n) (hh : Heap ρ w0 M β hp w) (hf : ∀ p ∈ fs, (p.1.ev ρ ≠ 0 ↔ p.2 = true))
  (hgl : GlOk gl β hp.n) {next : Act -> World -> Prop} (Q : Exit -> Act -> World -> Prop) (h : Goes ρ w0 M β hp (effS P call hp fs g o) fun v w' => next (a.put o.dst v) w') : o.wp P a w next Q := by
 obtain ⟨dst, op, type, pos, after, guard⟩ := o; have hbad : ∀ n K, Goes ρ w0 M β hp (.bad n) K -> False := fun _ _ h => h
 cases op <;> simp only [effS] at h <;> try (exact (hbad _ _ h).elim)
 case indexAddr t x i =>
  split at h
  ·rename_i k e he
   have hi := hg i; rw [he] at hi; obtain ⟨fs', hf', h'⟩ := concT_holds hf h; split at h'
   ·rename_i r hr
    obtain ⟨q1, q2⟩ := iaddrS_run (β := β) (hk x) hr w; have h2 := h' β w (Ext.refl _ _) (Nat.le_refl _) (Stay.refl _) hh hf' q2; have hv : (SV.int k (.lit (e.ev ρ))).ev ρ β = a.eval i := hi; rw [hg, hv] at q1; unfold Oper.wp; simp only [execOp, Sem.run_bind, q1, aOk, Sem.run_pure, Oper.upon]; exact h2
   ·exact False.elim h'
  ·exact (hbad _ _ h).elim
 case index t x i =>
  split at h
  ·rename_i k e he
   have hi := hg i; rw [he] at hi; obtain ⟨fs', hf', h'⟩ := concT_holds hf h; split at h'
   ·rename_i r hr
    obtain ⟨q1, q2⟩ := indexS_run (β := β) (hk x) hr w; have h2 := h' β w (Ext.refl _ _) (Nat.le_refl _) (Stay.refl _) hh hf' q2; have hv : (SV.int k (.lit (e.ev ρ))).ev ρ β = a.eval i := hi; rw [hg, hv] at q1; unfold Oper.wp; simp only [execOp, Sem.run_bind, q1, aOk, Sem.run_pure, Oper.upon]; exact h2
   ·exact False.elim h'
  ·exact (hbad _ _ h).elim
 case slice t x lo hi mx =>
  cases hi with
  | none =>
   cases mx with
   | some z => exact (hbad _ _ h).elim
   | none =>
    simp only at h; obtain ⟨v, h1, h2⟩ := cutS_run hh hf h; have he : (SV.ev ρ β ∘ g) = a.eval := funext hg; rw [hg, Option.map_map, he] at h1; unfold Oper.wp; simp only [execOp, Sem.run_bind, Option.map_some, Option.map_none, h1, aOk, Sem.run_pure, Oper.upon]; exact h2
  | some y =>
   cases mx with
   | some z => exact (hbad _ _ h).elim
   | none =>
    simp only at h; split at h
    ·rename_i k e he
     have hi := hg y; rw [he] at hi; obtain ⟨fs', hf', h'⟩ := concT_holds hf h; split at h'
     ·rename_i r hr
      obtain ⟨q1, q2⟩ := sliceH_run hh (hk x) hr; have h2 := h' β w (Ext.refl _ _) (Nat.le_refl _) (Stay.refl _) hh hf' q2; have hv : (SV.int k (.lit (e.ev ρ))).ev ρ β = a.eval y := hi; simp only [Option.map_map, Option.map_some, Option.map_none, hv, hg] at q1; have he : (SV.ev ρ β ∘ g) = a.eval := funext hg; rw [he] at q1; unfold Oper.wp; simp only [execOp, Sem.run_bind, Option.map_some, Option.map_none, q1, aOk, Sem.run_pure, Oper.upon]
      exact h2
     ·exact False.elim h'
    ·exact (hbad _ _ h).elim
 case alloc e =>
  obtain ⟨v, w', h1, h2⟩ := allocS_run hh hf h; unfold Oper.wp; simp only [execOp, Sem.run_bind, h1, aOk, Sem.run_pure, Oper.upon]; exact h2
 case box e x =>
  obtain ⟨v, w', h1, h2⟩ := boxS_run hh hf (hk x) h; rw [hg] at h1; unfold Oper.wp; simp only [execOp, Sem.run_bind]; rw [h1]; exact h2
 case buildSlice t n ps =>
  obtain ⟨v, w', h1, h2⟩ := buildSliceS_run (parts := ps.map fun p => (p.1, g p.2)) hh hf (by
   intro p hp'; simp only [Array.toList_map, List.mem_map] at hp'; obtain ⟨q, _, rfl⟩ := hp'; exact hk _) (by simpa using h)
  simp only [Array.map_map] at h1; have he : ((fun p : Nat × SV => (p.1, SV.ev ρ β p.2)) ∘ fun p : Nat × Operand => (p.1, g p.2)) = fun p => (p.1, a.eval p.2) := funext fun p => by simp [hg]
  rw [he] at h1; unfold Oper.wp; simp only [execOp, Sem.run_bind]; rw [show (fun x : Nat × Operand => match x with | (i, x) => (i, a.eval x)) = fun p => (p.1, a.eval p.2) from rfl, h1]
  simp only [aOk, Sem.run_pure, Oper.upon]; exact h2
 case store t x y =>
  obtain ⟨w', h1, h2⟩ := storeS_run hh hf (hk y) h; rw [hg, hg] at h1; unfold Oper.wp; simp only [execOp, Sem.run_bind, h1, aOk, Sem.run_pure, Oper.upon]; exact h2
 case pick c x y =>
  split at h
  ·rename_i e he
   have ec := hg c; rw [he] at ec; obtain ⟨fs', hf', h'⟩ := split_holds hf h; unfold Oper.wp; rcases h' with ⟨h1, h2⟩ | ⟨h1, h2⟩
   ·have := h2 β w (Ext.refl _ _) (Nat.le_refl _) (Stay.refl _) hh hf' (hk x)
    rw [hg] at this
    simpa only [execOp, <- ec, SV.ev, asBool, Sem.run_bind, Sem.run_pure, aOk, ne_eq, h1, not_false_eq_true, decide_true, if_true, Oper.upon] using this
   ·have := h2 β w (Ext.refl _ _) (Nat.le_refl _) (Stay.refl _) hh hf' (hk y)
    rw [hg] at this
    simpa only [execOp, <- ec, SV.ev, asBool, Sem.run_bind, Sem.run_pure, aOk, ne_eq, h1, not_true_eq_false, decide_false, Bool.false_eq_true, if_false, Oper.upon] using this
  ·exact (hbad _ _ h).elim
 case makeSlice t l c =>
  obtain ⟨v, w', h1, h2⟩ := makeSliceS_run hh hf h; rw [(litF_spec (n := 0) hf _).1, (litF_spec (n := 0) hf _).1, hg, hg] at h1; unfold Oper.wp; simp only [execOp, Sem.run_bind]; rw [h1]; exact h2
 case makeMap t r =>
  cases r with
  | some _ => exact (hbad _ _ h).elim
  | none =>
   have := makeMapS_run hh hf h; unfold Oper.wp; simp only [execOp, Instr.makeMap, Option.map_none, Sem.run_bind, run_newObj, World.alloc_eq, aOk, Sem.run_pure, Oper.upon]; exact this
 case lookup t m k ok =>
  obtain ⟨v, w', h1, h2⟩ := lookupS_run hh hf h; rw [hg, hg] at h1; unfold Oper.wp; simp only [execOp, Sem.run_bind]; rw [h1]; exact h2
 case insert t m k x =>
  obtain ⟨w', h1, h2⟩ := updateS_run hh hf (hk k) (hk x) h; rw [hg, hg, hg] at h1; unfold Oper.wp; simp only [execOp, Sem.run_bind]; rw [h1]; exact h2
 case mapUpdate t m k x =>
  obtain ⟨w', h1, h2⟩ := updateS_run hh hf (hk k) (hk x) h; rw [hg, hg, hg] at h1; unfold Oper.wp; simp only [execOp, Sem.run_bind]; rw [h1]; exact h2
 case call c =>
  obtain ⟨callee, as, ts⟩ := c; cases callee with
  | value f =>
   simp only at h; split at h
   ·rename_i fid u v hfv
    have ef := hg f; have kf := hk f; rw [hfv] at ef kf; obtain ⟨c1, c2⟩ := hc fid _ hp fs β w _ hh hf (oks_append (oks_append kf.1 (list_map_ok hk _)) kf.2) hgl h; unfold Oper.wp; simp only [execOp, resolve, Sem.run_bind, <- ef, SV.ev, Deferred.ofValue, Sem.run_pure, aOk, invoke, c1, Oper.upon]
    have hargs : (SV.evs ρ β u).toArray ++ as.map a.eval ++ (SV.evs ρ β v).toArray = (SV.evs ρ β (u ++ as.toList.map g ++ v)).toArray := by
     rw [evs_append, evs_append, list_map_ev hg]; apply Array.ext'; simp
    rw [hargs]; refine c2.mono fun e w' ⟨v', he, hk'⟩ => ?_
    subst he; exact hk'
   ·exact (hbad _ _ h).elim
  | invoke r m => exact (hbad _ _ h).elim
  | builtin b =>
   cases b <;> simp only at h <;> try (exact (hbad _ _ h).elim)
   case append =>
    split at h
    ·rename_i s x has
     split at h
     ·rename_i hts
      obtain ⟨v, w', h1, h2⟩ := appendS_run hh hf type hts (hk s) (hk x) h; rw [hg, hg] at h1; have ha : as.map a.eval = #[a.eval s, a.eval x] := by apply Array.ext'; simp [has]
      unfold Oper.wp; simp only [execOp, resolve, invoke, builtin, ha, Sem.run_bind, Sem.run_pure, aOk]; rw [h1]; exact h2
     ·exact (hbad _ _ h).elim
    ·exact (hbad _ _ h).elim
   case copy =>
    split at h
    ·rename_i d s has
     have hrun : ∃ v w', (Builtin.copy_ ts type #[(g d).ev ρ β, (g s).ev ρ β]).run P w = .ok v w' /\ next (a.put dst v) w' := by
      split at h
      ·rename_i k z off len0 len cap hs
       have hks := hk s; rw [hs] at hks ⊢; exact copyI_run hh hf hks type h
      ·exact copyS_run hh hf type h
     obtain ⟨v, w', h1, h2⟩ := hrun; rw [hg, hg] at h1; have ha : as.map a.eval = #[a.eval d, a.eval s] := by apply Array.ext'; simp [has]
     unfold Oper.wp; simp only [execOp, resolve, invoke, builtin, ha, Sem.run_bind, Sem.run_pure, aOk]; rw [h1]; exact h2
    ·exact (hbad _ _ h).elim
   case len =>
    split at h
    ·rename_i m has
     obtain ⟨v, w', h1, h2⟩ := mapLenS_run hh hf type h; rw [hg] at h1; have ha : as.map a.eval = #[a.eval m] := by apply Array.ext'; simp [has]
     unfold Oper.wp; simp only [execOp, resolve, invoke, builtin, ha, Sem.run_bind, Sem.run_pure, aOk]; rw [h1]; exact h2
    ·exact (hbad _ _ h).elim
def Later (ρ : Env) (w0 : World) (M : Nat -> Prop) (gl : Gl) (β : Bm) (hp : Hp) (st' : St) (K : Act -> World -> Prop) : Prop :=
 ∀ (β' : Bm) (a' : Act) (w' : World), Ext hp.n β β' -> hp.n <= st'.hp.n -> Stay hp st'.hp -> Conc ρ w0 M gl β' st' a' w' -> K a' w'
def doOp (P : Program) (gl : Gl) (call : Caller) (st : St) (o : Oper) : T St :=
 match pureS' P st.facts st.hp (st.get gl) o with
 | some r => .ok (st.put o.dst r)
 | none => (effS P call st.hp st.facts (st.get gl) o).bind fun out => .ok ({ st with hp := out.hp, facts := out.fs }.put o.dst out.v)
theorem Conc.put_out {st : St} {a : Act} {o : Option Tmp} {out : Out} {β' : Bm} {w' : World} (hst : Conc ρ w0 M gl β st a w) (hx : Ext st.hp.n β β') (hl : st.hp.n <= out.hp.n) (hh : Heap ρ w0 M β' out.hp w')
  (hf : ∀ p ∈ out.fs, (p.1.ev ρ ≠ 0 ↔ p.2 = true)) (hv : out.v.ok ρ out.hp.n) : Conc ρ w0 M gl β' ({ st with hp := out.hp, facts := out.fs }.put o out.v) (a.put o (out.v.ev ρ β')) w' :=
 (hst.go hx hl hh hf).put (st := { st with hp := out.hp, facts := out.fs }) hv o
theorem doOp_run {call : Caller} (hc : CallOk P ρ w0 M gl call) {st : St} {o : Oper} {a : Act} (hst : Conc ρ w0 M gl β st a w) {K : Act -> World -> Prop} (Q : Exit -> Act -> World -> Prop)
  (h : (doOp P gl call st o).holds ρ fun st' => Later ρ w0 M gl β st.hp st' K) : o.wp P a w K Q := by
 unfold doOp at h; split at h
 ·rename_i r hr
  obtain ⟨h1, h2⟩ := pureS'_run hst.get_ev hst.get_ok hst.heap.sees hst.facts hr; unfold Oper.wp; rw [h1]; refine h β _ w (Ext.refl _ _) ?_ ?_ (hst.put h2 o.dst)
  ·rw [St.put_hp]; exact Nat.le_refl _
  ·rw [St.put_hp]; exact Stay.refl _
 ·rw [T.holds_bind] at h
  refine effS_run hc hst.get_ev hst.get_ok hst.heap hst.facts hst.gl Q ?_; refine T.holds_mono (fun out ho β' w' hx hl hs hh hf hv => ?_) h
  refine ho β' _ w' hx ?_ ?_ (hst.put_out hx hl hh hf hv)
  ·rw [St.put_hp]; exact hl
  ·rw [St.put_hp]; exact hs
def isBoolV : Value -> Bool
 | .bool _ => true
 | _ => false
inductive Gd where
 | yes | no | ask (e : E) (want : Bool) | lost
def guardS (ops : Array Oper) (st : St) (o : Oper) : Gd :=
 match o.guard with
 | none => .yes
 | some (j, want) => match (ops[j]?).bind (·.dst) with
  | none => .no
  | some t => match st.tmp? t with
   | none => .no
   | some (.bool e) => .ask e want
   | some (.raw v) => if isBoolV v then .lost else .no
   | some _ => .no
theorem guardS_yes {ops : Array Oper} {st : St} {o : Oper} {a : Act} (hst : Conc ρ w0 M gl β st a w) (h : guardS ops st o = .yes) : Region.wanted o (yielded ops a.tmps) = true := by
 unfold guardS at h; unfold Region.wanted; split at h
 ·rename_i hg; rw [hg]
 ·split at h <;> first | cases h | skip
  split at h <;> first | cases h | skip
  split at h <;> cases h
theorem guardS_no {ops : Array Oper} {st : St} {o : Oper} {a : Act} (hst : Conc ρ w0 M gl β st a w) (h : guardS ops st o = .no) : Region.wanted o (yielded ops a.tmps) = false := by
 unfold guardS at h; unfold Region.wanted; split at h
 ·cases h
 ·rename_i j want hg
  rw [hg]
  have key : yielded ops a.tmps j = none := by
   unfold yielded; split at h
   ·rename_i hd; rw [hd]; rfl
   ·rename_i t hd
    rw [hd]; have ht : a.tmps[t]? = (st.tmp? t).map (SV.ev ρ β) := hst.tmp_ev t; simp only [Option.bind_some, ht]; split at h
    ·rename_i hn; rw [hn]; rfl
    ·cases h
    ·rename_i v hs
     split at h
     ·cases h
     ·rename_i hb
      rw [hs]; simp only [Option.map_some, SV.ev]; cases v <;> first | rfl | (exact absurd rfl hb)
    ·rename_i s hne1 hne2 hs
     rw [hs]; simp only [Option.map_some]; cases s <;> first | rfl | (exact (hne1 _ rfl).elim) | (exact (hne2 _ rfl).elim)
  show (yielded ops a.tmps j == some want) = false; rw [key]; rfl
theorem guardS_ask {ops : Array Oper} {st : St} {o : Oper} {a : Act} {e : E} {want : Bool} (hst : Conc ρ w0 M gl β st a w) (h : guardS ops st o = .ask e want) : Region.wanted o (yielded ops a.tmps) = (decide (e.ev ρ ≠ 0) == want) := by
 unfold guardS at h; unfold Region.wanted; split at h
 ·cases h
 ·rename_i j want' hg
  rw [hg]; split at h
  ·cases h
  ·rename_i t hd
   split at h
   ·cases h
   ·rename_i e' hs
    simp only [Gd.ask.injEq] at h; obtain ⟨rfl, rfl⟩ := h; have ht : a.tmps[t]? = (st.tmp? t).map (SV.ev ρ β) := hst.tmp_ev t; show (yielded ops a.tmps j == some want') = _; unfold yielded; rw [hd]; simp only [Option.bind_some, ht, hs, Option.map_some, SV.ev]; rfl
   ·split at h <;> cases h
   ·cases h
def runOp (P : Program) (gl : Gl) (call : Caller) (ops : Array Oper) (o : Oper) (st : St) : T St :=
 match guardS ops st o with
 | .yes => doOp P gl call st o
 | .no => .ok (st.put o.dst undefS)
 | .ask e want => split st.facts e (fun fs => if want then doOp P gl call { st with facts := fs } o else .ok ({ st with facts := fs }.put o.dst undefS))
   (fun fs => if want then .ok ({ st with facts := fs }.put o.dst undefS) else doOp P gl call { st with facts := fs } o)
 | .lost => .bad 120
theorem Conc.facts_to {st : St} {a : Act} {fs : Fs} (hst : Conc ρ w0 M gl β st a w) (hf : ∀ p ∈ fs, (p.1.ev ρ ≠ 0 ↔ p.2 = true)) : Conc ρ w0 M gl β { st with facts := fs } a w :=
 ⟨hst.size, hst.tmps, hst.defers, hst.good, hst.heap, hf, hst.gl⟩
theorem skip_later {st : St} {o : Oper} {a : Act} (hst : Conc ρ w0 M gl β st a w) {K : Act -> World -> Prop} (h : (T.ok (st.put o.dst undefS)).holds ρ fun st' => Later ρ w0 M gl β st.hp st' K) : K (a.put o.dst undef) w := by
 refine h β _ w (Ext.refl _ _) ?_ ?_ (hst.put (s := undefS) trivial o.dst)
 ·rw [St.put_hp]; exact Nat.le_refl _
 ·rw [St.put_hp]; exact Stay.refl _
theorem runOp_run {call : Caller} (hc : CallOk P ρ w0 M gl call) {ops : Array Oper} {st : St} {o : Oper} {a : Act} (hst : Conc ρ w0 M gl β st a w) {K : Act -> World -> Prop} (Q : Exit -> Act -> World -> Prop)
  (h : (runOp P gl call ops o st).holds ρ fun st' => Later ρ w0 M gl β st.hp st' K) :
  (Region.wanted o (yielded ops a.tmps) = true /\ o.wp P a w K Q) \/ (Region.wanted o (yielded ops a.tmps) = false /\ K (a.put o.dst undef) w) := by
 unfold runOp at h; split at h
 ·rename_i hg
  exact .inl ⟨guardS_yes hst hg, doOp_run hc hst Q h⟩
 ·rename_i hg
  exact .inr ⟨guardS_no hst hg, skip_later hst h⟩
 ·rename_i e want hg
  have hw := guardS_ask hst hg; obtain ⟨fs', hf', h'⟩ := split_holds hst.facts h; have hst' := hst.facts_to hf'; rcases h' with ⟨he, h'⟩ | ⟨he, h'⟩
  ·cases want
   ·simp only [Bool.false_eq_true, if_false] at h'
    exact .inr ⟨by rw [hw]; simp [he], skip_later hst' h'⟩
   ·simp only [if_true] at h'
    exact .inl ⟨by rw [hw]; simp [he], doOp_run hc hst' Q h'⟩
  ·cases want
   ·simp only [Bool.false_eq_true, if_false] at h'
    exact .inl ⟨by rw [hw]; simp [he], doOp_run hc hst' Q h'⟩
   ·simp only [if_true] at h'
    exact .inr ⟨by rw [hw]; simp [he], skip_later hst' h'⟩
 ·exact h.elim
theorem Later.trans {st1 st2 : St} {β1 : Bm} {K : Act -> World -> Prop} (hx : Ext hp.n β β1) (hl : hp.n <= st1.hp.n) (hs : Stay hp st1.hp) (h : Later ρ w0 M gl β hp st2 K) : Later ρ w0 M gl β1 st1.hp st2 K :=
 fun β' a' w' hx' hl' hs' hc => h β' a' w' (hx.trans hx' hl) (Nat.le_trans hl hl') (hs.trans hs') hc
def seqOps (P : Program) (gl : Gl) (call : Caller) (ops : Array Oper) : List Oper -> St -> T St
 | [], st => .ok st
 | o :: l, st => (runOp P gl call ops o st).bind (seqOps P gl call ops l)
theorem seqOps_run {call : Caller} (hc : CallOk P ρ w0 M gl call) {ops : Array Oper} {Q : Exit -> Act -> World -> Prop} : ∀ (k : Nat) (l : List Oper), (∀ i o, l[i]? = some o -> ops[k + i]? = some o) -> ∀ (β : Bm) (st : St) (a : Act) (w : World), Conc ρ w0 M gl β st a w ->
  ((seqOps P gl call ops l st).holds ρ fun st' => Later ρ w0 M gl β st.hp st' (Q .normal)) -> wpOps P ops Q (List.range' k l.length) a w
 | k, [], _, β, st, a, w, hst, h => by
  simp only [List.length_nil, List.range'_zero, wpOps]; exact h β a w (Ext.refl _ _) (Nat.le_refl _) (Stay.refl _) hst
 | k, o :: l, hl, β, st, a, w, hst, h => by
  have ho := hl 0 o rfl; simp only [Nat.add_zero] at ho; simp only [List.length_cons, List.range'_succ, wpOps, ho]; simp only [seqOps, T.holds_bind] at h
  have key : ∀ st', ((seqOps P gl call ops l st').holds ρ fun st'' => Later ρ w0 M gl β st.hp st'' (Q .normal)) -> Later ρ w0 M gl β st.hp st' (wpOps P ops Q (List.range' (k + 1) l.length)) :=
   fun st' h' β' a' w' hx hl' hs hst' => seqOps_run hc (k + 1) l (fun i o' hi => by rw [show k + 1 + i = k + (i + 1) by omega]; exact hl (i + 1) o' hi) β' st' a' w' hst' (T.holds_mono (fun st'' h'' => h''.trans hx hl' hs) h')
  rcases runOp_run hc hst Q (T.holds_mono key h) with ⟨h1, h2⟩ | ⟨h1, h2⟩
  ·simp only [h1, if_true]; exact .inl h2
  ·simp only [h1, Bool.false_eq_true, if_false]; exact h2
theorem seqRegion_run {call : Caller} (hc : CallOk P ρ w0 M gl call) {id : Nat} {ops : Array Oper} {Q : Exit -> Act -> World -> Prop} {st : St} {a : Act} (hst : Conc ρ w0 M gl β st a w)
  (h : (seqOps P gl call ops ops.toList st).holds ρ fun st' => Later ρ w0 M gl β st.hp st' (Q .normal)) : (Code.region id ops false).wp P Q a w := by
 refine wp_region ?_; have := seqOps_run (Q := Q) hc 0 ops.toList (fun i o hi => by simpa using hi) β st a w hst h
 rwa [Array.length_toList, <- List.range_eq_range'] at this
end
end SX
end Go.Proofs.YtfcpmapfhgibpaaGreatDoor
