/- Operations that look at the world and change nothing: what they yield. Of no program. -/
import Derived.Test.YthbfjnmdjehljaaDoorSxT
import Derived.Laws.StructEq
import Derived.Laws.Slices
import Derived.Deep.QuietTactic
namespace Go.Proofs.YthbfjnmdjehljaaDoor.SX
open Go
set_option linter.unusedVariables false

section
variable (P : Program)
def szOf (t : TypeId) : Option Nat := (P.info? t).map (·.size)
def aggT (t : TypeId) : Option Bool :=
  match P.underlying t with
  | some (.struct _) | some (.array _ _) => some true
  | some _ => some false
  | none => none
/-- The part of cells that begins at off and is of type t. -/
def partS (t : TypeId) (l : List SV) (off : Nat) : Option SV :=
  match aggT P t, szOf P t with
  | some true, some n => if off + n ≤ l.length then some (.agg ((l.drop off).take n)) else none
  | some false, some _ => l[off]?
  | _, _ => none
def cellsAt (hp : Hp) (b : Nat) : Option (List SV) :=
  match hp.at b with
  | some ⟨_, .cells c _ _⟩ => some c
  | some ⟨_, .ro c⟩ => some c
  | _ => none
def loadS (hp : Hp) (t : TypeId) (s : SV) : Option SV :=
  match s with
  | .ptr b off => match cellsAt hp b with
    | some c => partS P t c off
    | none => none
  | _ => none
def fieldS (t : TypeId) (s : SV) (f : Nat) : Option SV :=
  match P.underlying t, s with
  | some (.struct fs), .agg l => match fs[f]? with
    | some fd => partS P fd.type l fd.offset
    | none => none
  | _, _ => none
def faddrS (t : TypeId) (s : SV) (f : Nat) : Option SV :=
  match P.underlying t, s with
  | some (.struct fs), .ptr b off => match fs[f]? with
    | some fd => match szOf P fd.type with
      | some (_ + 1) => some (.ptr b (off + fd.offset))
      | _ => none
    | none => none
  | _, _ => none
def natLit (s : SV) : Option Nat :=
  match s with
  | .int _ (.lit (.ofNat n)) => some n
  | _ => none
def iaddrS (t : TypeId) (s i : SV) : Option SV :=
  match P.underlying t, s, natLit i with
  | some (.array len e), .ptr b off, some n => match szOf P e with
    | some z => if n < len then some (.ptr b (off + n * z)) else none
    | none => none
  | some (.slice e), .slice b off len _, some n => match szOf P e with
    | some z => if n < len then some (.ptr b (off + n * z)) else none
    | none => none
  | _, _, _ => none
def indexS (t : TypeId) (s i : SV) : Option SV :=
  match P.underlying t, s, natLit i with
  | some (.array len e), .agg l, some n => match szOf P e with
    | some z => if n < len then partS P e l (n * z) else none
    | none => none
  | _, _, _ => none

/-! ### Integers -/
def unsignedK : IntKind → Bool
  | .u8 | .u16 | .u32 | .u64 => true
  | _ => false
def notNeg (k : IntKind) (e : E) : Bool :=
  unsignedK k || (match e with | .lit (.ofNat _) => true | _ => false)
def notZero (e : E) : Bool :=
  match e with
  | .lit n => n != 0
  | _ => false
def neg (e : E) : E :=
  match e with
  | .lit n => .lit (if n = 0 then 1 else 0)
  | e => match e.neg? with
    | some x => x
    | none => .bin .eq .i64 e (.lit 0)
def isB' (e : E) : Bool :=
  match e with
  | .lit n => n == 0 || n == 1
  | e => e.isB
/-- A test as 0 or 1. -/
def toB (e : E) : E := if isB' e then e else .bin .eq .i64 (.bin .eq .i64 e (.lit 0)) (.lit 0)
def bitOp : BinOp → Option BOp
  | .and => some .and | .or => some .or | .xor => some .xor | .andNot => some .andNot
  | _ => none
def arithOp : BinOp → Option BOp
  | .add => some .add | .sub => some .sub | .mul => some .mul
  | _ => none
def intS (op : BinOp) (k : IntKind) (a b : E) : Option SV :=
  match op with
  | .add => some (.int k (mk .add k a b))
  | .sub => some (.int k (mk .sub k a b))
  | .mul => some (.int k (mk .mul k a b))
  | .and => some (.int k (mk .and k a b))
  | .or => some (.int k (mk .or k a b))
  | .xor => some (.int k (mk .xor k a b))
  | .andNot => some (.int k (mk .andNot k a b))
  | .quo => if notZero b then some (.int k (mk .quo k a b)) else none
  | .rem => if notZero b then some (.int k (mk .rem k a b)) else none
  | .eql => some (.bool (mk .eq k a b))
  | .neq => some (.bool (neg (mk .eq k a b)))
  | .lss => some (.bool (mk .lt k a b))
  | .gtr => some (.bool (mk .lt k b a))
  | .leq => some (.bool (neg (mk .lt k b a)))
  | .geq => some (.bool (neg (mk .lt k a b)))
  | _ => none
/-- '==' of two values of a type. -/
def eqS : Nat → TypeId → SV → SV → Option E
  | 0, _, _, _ => none
  | d + 1, t, x, y =>
    match P.underlying t, x, y with
    | some .bool, .bool a, .bool b => some (mk .eq .i64 (toB a) (toB b))
    | some (.int _), .int k a, .int k' b => if kTag k = kTag k' then some (mk .eq k a b) else none
    | some (.pointer _), .raw (.pointer none), .raw (.pointer none) => some (.lit 1)
    | some (.pointer _), .raw (.pointer none), .ptr _ _ => some (.lit 0)
    | some (.pointer _), .ptr _ _, .raw (.pointer none) => some (.lit 0)
    | some (.slice _), .raw (.slice none _ _), .raw (.slice none _ _) => some (.lit 1)
    | some (.slice _), .raw (.slice none _ _), .slice _ _ _ _ => some (.lit 0)
    | some (.slice _), .slice _ _ _ _, .raw (.slice none _ _) => some (.lit 0)
    | some (.struct fs), .agg l, .agg m =>
      if P.stoodInHeld t then none else
      fs.toList.foldr (fun f acc => if f.name = "_" then acc else
        match partS P f.type l f.offset, partS P f.type m f.offset with
        | some u, some v => match eqS d f.type u v, acc with
          | some e, some r => some (mk .band .i64 e r)
          | _, _ => none
        | _, _ => none) (some (.lit 1))
    | _, _, _ => none
def eqBytes : List E → List E → E
  | [], [] => .lit 1
  | a :: l, b :: m => mk .band .i64 (mk .eq .u8 a b) (eqBytes l m)
  | _, _ => .lit 0
def binS (op : BinOp) (t : TypeId) (x y : SV) : Option SV :=
  match op, x, y with
  | .shl, .int k a, .int j b => if notNeg j b then some (.int k (mk .shl k a b)) else none
  | .shr, .int k a, .int j b => if notNeg j b then some (.int k (mk .shr k a b)) else none
  | op, .int k a, .int j b => if kTag k = kTag j then intS op k a b else none
  | .eql, .str l, .str m => some (.bool (eqBytes l m))
  | .eql, x, y => (eqS P 8 t x y).map fun e => .bool e
  | .neq, x, y => (eqS P 8 t x y).map fun e => .bool (neg e)
  | _, _, _ => none
def unS (op : UnOp) (s : SV) : Option SV :=
  match op, s with
  | .neg, .int k e => some (.int k (mk .sub k (.lit 0) e))
  | .xor, .int k e => some (.int k (mk .xor k (.lit (if k.signed then -1 else k.max)) e))
  | .not, .bool e => some (.bool (neg e))
  | _, _ => none
def convS (src dst : TypeId) (s : SV) : Option SV :=
  match P.underlying src, P.underlying dst, s with
  | some _, some (.int k), .int _ e => some (.int k (mk .conv k e (.lit 0)))
  | _, _, _ => none
end

/-! ### They are right -/
section
variable {P : Program} {ρ : Env} {β : Bm} {w : World} {n : Nat}

theorem aggT_run {t : TypeId} {b : Bool} (h : aggT P t = some b) (w : World) : (isAgg t).run P w = .ok b w := by
  unfold aggT at h
  cases hu : P.underlying t with
  | none => simp [hu] at h
  | some d => cases d <;> simp [hu] at h <;> subst h <;> simp [isAgg, run_underlying hu]
theorem szOf_run {t : TypeId} {z : Nat} (h : szOf P t = some z) (w : World) : (sizeOf t).run P w = .ok z w := by
  unfold szOf at h
  cases hi : P.info? t with
  | none => simp [hi] at h
  | some i => simp [hi] at h; subst h; simp [sizeOf, typeInfo, hi]
theorem oks_part {l : List SV} (h : SV.oks ρ n l) (i j : Nat) : SV.oks ρ n ((l.drop i).take j) := by
  rw [SV.oks_mem] at *
  exact fun s hs => h s (List.mem_of_mem_drop (List.mem_of_mem_take hs))
theorem oks_get {l : List SV} {i : Nat} {s : SV} (h : SV.oks ρ n l) (hs : l[i]? = some s) : s.ok ρ n := SV.oks_mem.1 h s (List.mem_of_getElem? hs)
theorem partS_run {t : TypeId} {l : List SV} {off : Nat} {r : SV} (hl : SV.oks ρ n l) (h : partS P t l off = some r) (rest : List Value) (w : World) :
    (part t (SV.evs ρ β l ++ rest).toArray off).run P w = .ok (r.ev ρ β) w ∧ r.ok ρ n := by
  unfold partS at h
  split at h
  · rename_i z ha hz
    split at h
    · rename_i hle
      obtain rfl := Option.some.inj h
      refine ⟨?_, oks_part hl _ _⟩
      simp only [part, Sem.run_bind, aggT_run ha w, Result.andThen_ok, if_true, szOf_run hz w, Sem.run_pure, SV.ev]
      congr 2
      rw [SV.evs_map, SV.evs_map]
      apply Array.ext'
      simp only [List.extract_toArray, List.extract_eq_take_drop]
      rw [List.drop_append_of_le_length (by simp; omega), List.take_append_of_le_length (by simp; omega)]
      simp [List.map_take, List.map_drop]
    · cases h
  · rename_i z ha hz
    refine ⟨?_, oks_get hl h⟩
    have hlt := (List.getElem?_eq_some_iff.1 h).1
    have : (SV.evs ρ β l ++ rest).toArray[off]? = some (r.ev ρ β) := by
      rw [List.getElem?_toArray, List.getElem?_append_left (by rw [SV.evs_map]; simpa using hlt), SV.evs_map, List.getElem?_map, h]
      rfl
    simp only [part, Sem.run_bind, aggT_run ha w, Result.andThen_ok, Bool.false_eq_true, if_false, this, Sem.run_pure]
  · cases h
theorem add_lit (b o i : Nat) : (⟨b, o, none⟩ : Addr).add i = ⟨b, o + i, none⟩ := by
  unfold Addr.add
  split
  · rename_i h; subst h; rfl
  · rfl
theorem Bx.lies_cells {c : List SV} {ty : TypeId} {tail : Nat} {b : Nat × Nat} (h : (Bx.cells c ty tail).lies ρ β b w) : ∃ rest : List Value, w.heap[b.1]? = some (.cells (SV.evs ρ β c ++ rest).toArray ty (0, 0)) := by
  cases tail with
  | zero => exact ⟨[], by simpa [Bx.lies] using h⟩
  | succ s => obtain ⟨rest, h1, _⟩ := h; exact ⟨rest, h1⟩
/-- What a pure operation may know of the world: the boxes. -/
structure Sees (ρ : Env) (β : Bm) (n : Nat) (hp : Hp) (w : World) : Prop where
  lies : ∀ (k : Nat) (b : Box), hp.at k = some b → b.c.lies ρ β (β k) w
  good : ∀ (k : Nat) (b : Box), hp.at k = some b → b.c.ok ρ n
theorem cellsAt_spec {hp : Hp} {b : Nat} {c : List SV} (hs : Sees ρ β n hp w) (h : cellsAt hp b = some c) : (∀ (j : Nat) (v : Value), (SV.evs ρ β c)[j]? = some v → w.cell? ⟨(β b).1, j, none⟩ = some v) ∧ SV.oks ρ n c := by
  unfold cellsAt at h
  split at h
  · rename_i ty tail hb
    obtain rfl := Option.some.inj h
    obtain ⟨rest, hg⟩ := Bx.lies_cells (hs.lies _ _ hb)
    refine ⟨fun j v hv => ?_, hs.good _ _ hb⟩
    rw [cell_of_row w _ j _ _ _ hg, List.getElem?_toArray, List.getElem?_append_left (List.getElem?_eq_some_iff.1 hv).1]
    exact hv
  · rename_i hb
    obtain rfl := Option.some.inj h
    exact ⟨hs.lies _ _ hb, hs.good _ _ hb⟩
  · cases h
theorem loadS_run {hp : Hp} {t : TypeId} {s r : SV} (hs : Sees ρ β n hp w) (h : loadS P hp t s = some r) : (Instr.loadAt t (s.ev ρ β)).run P w = .ok (r.ev ρ β) w ∧ r.ok ρ n := by
  unfold loadS at h
  split at h
  · rename_i b off
    split at h
    · rename_i c hc
      obtain ⟨hcell, hgood⟩ := cellsAt_spec hs hc
      have hp := partS_run (β := β) hgood h [] w
      refine ⟨?_, hp.2⟩
      have hp1 := hp.1
      unfold partS at h
      split at h
      · rename_i z ha hz
        split at h
        · rename_i hle
          obtain rfl := Option.some.inj h
          simp only [SV.ev, Instr.loadAt, Instr.sureAddr, Sem.run_bind, Sem.run_pure, Result.andThen_ok, loadVar, aggT_run ha w, if_true, szOf_run hz w]
          have hl : (loadCells ⟨(β b).1, off, none⟩ (SV.evs ρ β ((c.drop off).take z)).length).run P w = .ok (SV.evs ρ β ((c.drop off).take z)).toArray w :=
            run_loadCells_list w _ _ fun j v hv => by
              rw [add_lit]
              refine hcell _ v ?_
              rw [SV.evs_map, List.getElem?_map, List.getElem?_take] at hv
              split at hv
              · rw [List.getElem?_drop] at hv
                rw [SV.evs_map, List.getElem?_map]
                exact hv
              · cases hv
          have hlen : (SV.evs ρ β ((c.drop off).take z)).length = z := by rw [SV.evs_map]; simp; omega
          rw [hlen] at hl
          simp only [hl, Result.andThen_ok]
        · cases h
      · rename_i z ha hz
        have hlt := (List.getElem?_eq_some_iff.1 h).1
        have hv : w.cell? ⟨(β b).1, off, none⟩ = some (r.ev ρ β) := by
          refine hcell _ _ ?_
          rw [SV.evs_map, List.getElem?_map, h]; rfl
        simp only [SV.ev, Instr.loadAt, Instr.sureAddr, Sem.run_bind, Sem.run_pure, Result.andThen_ok, loadVar, aggT_run ha w, Bool.false_eq_true, if_false, run_load, hv]
      · cases h
    · cases h
  · cases h
theorem fieldS_run {t : TypeId} {s r : SV} {f : Nat} (hs : s.ok ρ n) (h : fieldS P t s f = some r) (w : World) : (Instr.field t (s.ev ρ β) f).run P w = .ok (r.ev ρ β) w ∧ r.ok ρ n := by
  unfold fieldS at h
  split at h
  · rename_i fs l hu
    split at h
    · rename_i fd hf
      have := partS_run (β := β) (show SV.oks ρ n l from hs) h [] w
      rw [List.append_nil] at this
      refine ⟨?_, this.2⟩
      simp only [Instr.field, Sem.run_bind, run_underlying hu w, Result.andThen_ok, hf, SV.ev, asAgg, Sem.run_pure, this.1]
    · cases h
  · cases h
theorem faddrS_run {t : TypeId} {s r : SV} {f : Nat} (hs : s.ok ρ n) (h : faddrS P t s f = some r) (w : World) : (Instr.fieldAt t (s.ev ρ β) f).run P w = .ok (r.ev ρ β) w ∧ r.ok ρ n := by
  unfold faddrS at h
  split at h
  · rename_i fs b off hu
    split at h
    · rename_i fd hf
      split at h
      · rename_i z hz
        obtain rfl := Option.some.inj h
        refine ⟨?_, hs⟩
        simp [Instr.fieldAt, run_underlying hu w, hf, SV.ev, Instr.sureAddr, fieldPlace, szOf_run hz w, add_lit]
      · cases h
    · cases h
  · cases h
theorem natLit_spec {s : SV} {m : Nat} (h : natLit s = some m) : ∃ k, s = .int k (.lit (m : Int)) := by
  unfold natLit at h
  split at h
  · rename_i k m'
    obtain rfl := Option.some.inj h
    exact ⟨k, rfl⟩
  · cases h
theorem iaddrS_run {t : TypeId} {s i r : SV} (hs : s.ok ρ n) (h : iaddrS P t s i = some r) (w : World) : (Instr.indexAt t (s.ev ρ β) (i.ev ρ β)).run P w = .ok (r.ev ρ β) w ∧ r.ok ρ n := by
  unfold iaddrS at h
  split at h
  · rename_i len e b off m hu hi
    obtain ⟨k, rfl⟩ := natLit_spec hi
    split at h
    · rename_i z hz
      split at h
      · rename_i hlt
        obtain rfl := Option.some.inj h
        refine ⟨?_, hs⟩
        simp [Instr.indexAt, run_underlying hu w, SV.ev, E.ev, asIntOf, Instr.sureAddr, szOf_run hz w, add_lit, hlt]
      · cases h
    · cases h
  · rename_i e b off len cap m hu hi
    obtain ⟨k, rfl⟩ := natLit_spec hi
    split at h
    · rename_i z hz
      split at h
      · rename_i hlt
        obtain rfl := Option.some.inj h
        refine ⟨?_, hs⟩
        cases cap <;> simp [Instr.indexAt, run_underlying hu w, SV.ev, E.ev, asIntOf, Instr.sureAddr, szOf_run hz w, add_lit, hlt]
      · cases h
    · cases h
  · cases h
theorem indexS_run {t : TypeId} {s i r : SV} (hs : s.ok ρ n) (h : indexS P t s i = some r) (w : World) : (Instr.index t (s.ev ρ β) (i.ev ρ β)).run P w = .ok (r.ev ρ β) w ∧ r.ok ρ n := by
  unfold indexS at h
  split at h
  · rename_i len e l m hu hi
    obtain ⟨k, rfl⟩ := natLit_spec hi
    split at h
    · rename_i z hz
      split at h
      · rename_i hlt
        have := partS_run (β := β) (show SV.oks ρ n l from hs) h [] w
        rw [List.append_nil] at this
        refine ⟨?_, this.2⟩
        simp [Instr.index, run_underlying hu w, SV.ev, E.ev, asIntOf, szOf_run hz w, hlt, this.1]
      · cases h
    · cases h
  · cases h

theorem neg_ev (ρ : Env) (e : E) : ((neg e).ev ρ ≠ 0 ↔ e.ev ρ = 0) := by
  unfold neg
  split
  · rename_i m
    by_cases hm : m = 0 <;> simp [E.ev, hm]
  · split
    · rename_i x hx
      have := E.neg?_spec (ρ := ρ) hx
      constructor
      · intro h
        by_cases he : e.ev ρ = 0
        · exact he
        · exact absurd (this.1 he) h
      · intro h hx0
        exact (this.2 hx0) h
    · by_cases he : e.ev ρ = 0 <;> simp [E.ev, BOp.ev, he]
theorem neg_bool (ρ : Env) (e : E) : decide ((neg e).ev ρ ≠ 0) = !decide (e.ev ρ ≠ 0) := by
  have := neg_ev ρ e
  by_cases he : e.ev ρ = 0
  · have h1 := this.2 he; simp [he, h1]
  · have h1 : ¬ (neg e).ev ρ ≠ 0 := fun h => he (this.1 h)
    simp only [he, ne_eq, not_false_eq_true, decide_true, Bool.not_true, decide_eq_false_iff_not]
    exact h1
theorem wf_shr (k : IntKind) (x : Int) (m : Nat) (h : (Lit.int k x).wf = true) : (Lit.int k (x.fdiv (2 ^ m))).wf = true := by
  rw [wf_iff] at *
  have hp : (0 : Int) < 2 ^ m := Int.pow_pos (by decide)
  have h1 : (1 : Int) ≤ 2 ^ m := hp
  rw [Int.fdiv_eq_ediv_of_nonneg _ (by omega)]
  have hmin : k.min ≤ 0 := by cases k <;> decide
  have hmax : 0 ≤ k.max := by cases k <;> decide
  constructor
  · rw [Int.le_ediv_iff_mul_le hp]
    have : k.min * 2 ^ m ≤ k.min * 1 := Int.mul_le_mul_of_nonpos_left hmin h1
    omega
  · rcases Int.le_total 0 x with h0 | h0
    · have := Int.ediv_le_self (2 ^ m : Int) h0; omega
    · have : x / 2 ^ m ≤ 0 / 2 ^ m := Int.ediv_le_ediv hp h0
      simp at this; omega
theorem wf_rem (k : IntKind) (x y : Int) (h : (Lit.int k x).wf = true) : (Lit.int k (x.tmod y)).wf = true := by
  rw [wf_iff] at *
  have hmin : k.min ≤ 0 := by cases k <;> decide
  have hmax : 0 ≤ k.max := by cases k <;> decide
  rcases Int.le_total 0 x with h0 | h0
  · have h1 := Int.tmod_nonneg y h0
    have h2 : x.tmod y ≤ x := by
      obtain ⟨a, rfl⟩ := Int.eq_ofNat_of_zero_le h0
      cases y with
      | ofNat b => show ((a % b : Nat) : Int) ≤ a; have := Nat.mod_le a b; omega
      | negSucc b => show ((a % (b + 1) : Nat) : Int) ≤ a; have := Nat.mod_le a (b + 1); omega
    omega
  · have h1 : x.tmod y ≤ 0 := by
      have := Int.tmod_nonneg y (show 0 ≤ -x by omega)
      rw [Int.neg_tmod] at this; omega
    have h2 : x ≤ x.tmod y := by
      have h3 : (-x).tmod y ≤ -x := by
        obtain ⟨a, ha⟩ := Int.eq_ofNat_of_zero_le (show 0 ≤ -x by omega)
        rw [ha]
        cases y with
        | ofNat b => show ((a % b : Nat) : Int) ≤ a; have := Nat.mod_le a b; omega
        | negSucc b => show ((a % (b + 1) : Nat) : Int) ≤ a; have := Nat.mod_le a (b + 1); omega
      rw [Int.neg_tmod] at h3; omega
    omega
end
end Go.Proofs.YthbfjnmdjehljaaDoor.SX
