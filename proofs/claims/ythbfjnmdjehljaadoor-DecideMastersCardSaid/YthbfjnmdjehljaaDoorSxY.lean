/- Operations on slices of input arrays, of any length, by what is known. Of no program. -/
import Derived.Test.YthbfjnmdjehljaaDoorSxQ
namespace Go.Proofs.YthbfjnmdjehljaaDoor.SX
open Go
set_option linter.unusedVariables false
set_option linter.unusedSimpArgs false

def Lk.rd (l : Lk) (a f : Nat) (i : E) : SV :=
  match l with
  | .int k => .int k (.rd a (8 * f + kTag k) i)
  | .bool => .bool (.rd a (8 * f + 3) i)
def rdL (a : Nat) (i : E) : List Lk → Nat → List SV
  | [], _ => []
  | l :: ls, f => l.rd a f i :: rdL a i ls (f + 1)
/-- e is known to be at least 0 and less than n. -/
def inRng (fs : List (E × Bool)) (e n : E) : Bool := knownC fs (.bin .lt .i64 e (.lit 0)) == some false && knownC fs (.bin .lt .i64 e n) == some true
def leK (fs : List (E × Bool)) (a b : E) : Bool := knownC fs (.bin .lt .i64 b a) == some false
def lowE : Option SV → Option Nat
  | none => some 0
  | some s => natLit s
def highE (len : E) : Option SV → Option E
  | none => some len
  | some (.int _ e) => some e
  | _ => none
/-- A cell's element and field. -/
def elemOf (z off : Nat) (i : E) : Option (E × Nat) :=
  match i with
  | .lit (.ofNat n) => if 0 < z then some (.lit (Int.ofNat (n + off / z)), off % z) else none
  | i => if off < z then some (i, off) else none
def readI (P : Program) (a : Nat) (ks : List Lk) (t : TypeId) (i : E) (f : Nat) : Option SV :=
  match aggT P t, szOf P t with
  | some true, some m => if f + m ≤ ks.length then some (.agg (rdL a i ((ks.drop f).take m) f)) else none
  | some false, some _ => ks[f]?.map fun l => l.rd a f i
  | _, _ => none
def loadI (P : Program) (hp : Hp) (t : TypeId) (k z : Nat) (len0 i : E) (off : Nat) : Option SV :=
  match hp.at k with
  | some ⟨_, .arr a ks len0'⟩ => if z = ks.length ∧ len0.beq len0' = true then
      match elemOf z off i with
      | some (ie, f) => readI P a ks t ie f
      | none => none
    else none
  | _ => none
def indexI (P : Program) (fs : List (E × Bool)) (t : TypeId) (k z off : Nat) (len0 len e : E) : Option SV :=
  match P.underlying t with
  | some (.slice et) => if szOf P et = some z ∧ inRng fs e len = true ∧ 0 < z then
      match e with
      | .lit (.ofNat n) => some (.iptr k z len0 (.lit 0) (n * z + off))
      | e => some (.iptr k z len0 e off)
    else none
  | _ => none
def sliceI (P : Program) (fs : List (E × Bool)) (t : TypeId) (k z off : Nat) (len0 len cap : E) (lo hi : Option SV) : Option SV :=
  match P.underlying t, lowE lo, highE len hi with
  | some (.slice et), some l, some h => if szOf P et = some z ∧ leK fs (.lit (Int.ofNat l)) h = true ∧ leK fs h len = true then
      if l = 0 then some (.inp k z off len0 h cap)
      else if knownC fs (.bin .lt .i64 (.lit (Int.ofNat l)) len) = some true then some (.inp k z (off + l * z) len0 (mk .sub .i64 h (.lit (Int.ofNat l))) (.bin .zadd .i64 cap (.lit (-Int.ofNat l))))
      else none
    else none
  | _, _, _ => none
def strI (P : Program) (hp : Hp) (fs : List (E × Bool)) (src dst : TypeId) (k z off : Nat) (len0 len : E) : Option SV :=
  match P.underlying src, P.underlying dst, hp.at k, canon fs len with
  | some (.slice e), some .string, some ⟨_, .arr a [.int .u8] len0'⟩, .lit (.ofNat n) => match P.underlying e with
    | some (.int .u8) => if z = 1 ∧ len0.beq len0' = true then some (.str ((List.range n).map fun j => .rd a 4 (.lit (Int.ofNat (off + j))))) else none
    | _ => none
  | _, _, _, _ => none
def inpS (P : Program) (fs : List (E × Bool)) (hp : Hp) (g : Operand → SV) (o : Oper) : Option SV :=
  match o.op with
  | .load t x => match g x with
    | .iptr k z len0 i off => loadI P hp t k z len0 i off
    | _ => none
  | .indexAddr t x i => match g x, g i with
    | .inp k z off len0 len _, .int _ e => indexI P fs t k z off len0 len e
    | _, _ => none
  | .fieldAddr t x f => match g x, P.underlying t with
    | .iptr k z len0 i off, some (.struct fds) => match fds[f]? with
      | some fd => match szOf P fd.type with
        | some (_ + 1) => if off % z + fd.offset < z then some (.iptr k z len0 i (off + fd.offset)) else none
        | _ => none
      | none => none
    | _, _ => none
  | .nilCheck x => match g x with
    | .iptr k z len0 i off => some (.iptr k z len0 i off)
    | _ => none
  | .slice t x lo hi none => match g x with
    | .inp k z off len0 len cap => sliceI P fs t k z off len0 len cap (lo.map g) (hi.map g)
    | _ => none
  | .convert s d x => match g x with
    | .inp k z off len0 len _ => strI P hp fs s d k z off len0 len
    | _ => none
  | .call { callee := .builtin .len, args := as, argTypes := ts } => match as.toList, ts[0]? with
    | [x], some t => match P.underlying t, g x with
      | some (.slice _), .inp _ _ _ _ len _ => some (.int .i64 len)
      | _, _ => none
    | _, _ => none
  | .binOp .eql t x y _ => match P.underlying t, g x, g y with
    | some (.slice _), .inp _ _ _ _ _ _, .raw (.slice none _ _) => some (.bool (.lit 0))
    | _, _, _ => none
  | .binOp .neq t x y _ => match P.underlying t, g x, g y with
    | some (.slice _), .inp _ _ _ _ _ _, .raw (.slice none _ _) => some (.bool (.lit 1))
    | _, _, _ => none
  | _ => none
/-- An integer of few values, value by value. -/
def concN {α : Type} (e : E) (f : Int → List (E × Bool) → T α) : Nat → Int → List (E × Bool) → T α
  | 0, m, fs => f m fs
  | n + 1, m, fs => split fs (.bin .eq .i64 e (.lit m)) (f m) (concN e f n (m + 1))
def concT {α : Type} (fs : List (E × Bool)) (e : E) (f : Int → List (E × Bool) → T α) : T α :=
  match (ana fs e).2.lo, (ana fs e).2.hi with
  | some lo, some hi => if lo ≤ hi ∧ hi - lo ≤ 400 then concN e f (hi - lo).toNat lo fs else .bad 161
  | _, _ => .bad 160
/-- A test of many parts is decided at once, where it can be. -/
def simpB (fs : List (E × Bool)) (s : SV) : SV :=
  match s with
  | .bool (.bin .band k a b) => match canon fs (.bin .band k a b) with
    | .lit n => .bool (.lit n)
    | _ => .bool (.bin .band k a b)
  | s => s
theorem simpB_spec {ρ : Env} {fs : List (E × Bool)} (hf : FsOk ρ fs) (s : SV) (β : Bm) (n : Nat) : (simpB fs s).ev ρ β = s.ev ρ β ∧ (s.ok ρ n → (simpB fs s).ok ρ n) := by
  unfold simpB
  split
  · rename_i k a b
    split
    · rename_i m hm
      have := canon_ev (ρ := ρ) (fs := fs) hf (.bin .band k a b)
      rw [hm] at this
      simp only [SV.ev, this]
      exact ⟨trivial, fun _ => trivial⟩
    · exact ⟨rfl, id⟩
  · exact ⟨rfl, id⟩
def pureS' (P : Program) (fs : List (E × Bool)) (hp : Hp) (g : Operand → SV) (o : Oper) : Option SV :=
  match pureS P hp g o with
  | some r => some (simpB fs r)
  | none => inpS P fs hp g o

section
variable {P : Program} {ρ : Env} {β : Bm} {w : World} {n : Nat} {fs : List (E × Bool)}
theorem inRng_spec {e m : E} (hf : FsOk ρ fs) (h : inRng fs e m = true) : 0 ≤ e.ev ρ ∧ e.ev ρ < m.ev ρ := by
  simp only [inRng, Bool.and_eq_true, beq_iff_eq] at h
  have h1 := knownC_spec hf h.1
  have h2 := knownC_spec hf h.2
  simp only [E.ev, BOp.ev] at h1 h2
  constructor
  · by_cases hx : e.ev ρ < 0
    · simp [hx] at h1
    · omega
  · by_cases hx : e.ev ρ < m.ev ρ
    · exact hx
    · simp [hx] at h2
theorem ltK_spec {a b : E} (hf : FsOk ρ fs) (h : knownC fs (.bin .lt .i64 a b) = some true) : a.ev ρ < b.ev ρ := by
  have h2 := knownC_spec hf h
  simp only [E.ev, BOp.ev] at h2
  by_cases hx : a.ev ρ < b.ev ρ
  · exact hx
  · simp [hx] at h2
theorem leK_spec {a b : E} (hf : FsOk ρ fs) (h : leK fs a b = true) : a.ev ρ ≤ b.ev ρ := by
  simp only [leK, beq_iff_eq] at h
  have h2 := knownC_spec hf h
  simp only [E.ev, BOp.ev] at h2
  by_cases hx : b.ev ρ < a.ev ρ
  · simp [hx] at h2
  · omega
theorem elemOf_spec {z off f : Nat} {i ie : E} {N : Nat} (h : elemOf z off i = some (ie, f)) (hi : 0 ≤ i.ev ρ) (hlt : (i.ev ρ).toNat * z + off < N * z) :
    (ie.ev ρ).toNat < N ∧ f < z ∧ (i.ev ρ).toNat * z + off = (ie.ev ρ).toNat * z + f := by
  unfold elemOf at h
  split at h
  · rename_i m
    split at h
    · rename_i hz
      simp only [Option.some.injEq, Prod.mk.injEq] at h
      obtain ⟨rfl, rfl⟩ := h
      have e0 : (E.ev ρ (.lit (Int.ofNat m))).toNat = m := rfl
      have e1 : (E.ev ρ (.lit (Int.ofNat (m + off / z)))).toNat = m + off / z := rfl
      rw [e0] at hlt ⊢
      rw [e1]
      have hd := Nat.div_add_mod off z
      have hm := Nat.mod_lt off hz
      have e2 : m * z + off = (m + off / z) * z + off % z := by rw [Nat.add_mul, Nat.mul_comm (off / z) z]; omega
      refine ⟨?_, hm, e2⟩
      rw [e2] at hlt
      refine Nat.lt_of_mul_lt_mul_right (a := z) ?_
      omega
    · cases h
  · split at h
    · rename_i hz
      simp only [Option.some.injEq, Prod.mk.injEq] at h
      obtain ⟨rfl, rfl⟩ := h
      refine ⟨?_, hz, rfl⟩
      refine Nat.lt_of_mul_lt_mul_right (a := z) ?_
      omega
    · cases h
theorem rd_spec {a f : Nat} {i : E} {l : Lk} (h : l.fits (ρ.rd a (l.code f) (i.ev ρ))) : (l.rd a f i).ev ρ β = l.val (ρ.rd a (l.code f) (i.ev ρ)) ∧ (l.rd a f i).ok ρ n := by
  cases l
  · exact ⟨rfl, h⟩
  · exact ⟨rfl, trivial⟩
theorem rdL_spec {a : Nat} {i : E} : ∀ {ls : List Lk} {f : Nat}, (∀ (j : Nat) (l : Lk), ls[j]? = some l → l.fits (ρ.rd a (l.code (f + j)) (i.ev ρ))) → SV.oks ρ n (rdL a i ls f) ∧ (rdL a i ls f).length = ls.length ∧ ∀ (j : Nat) (v : Value), (SV.evs ρ β (rdL a i ls f))[j]? = some v → ∃ l : Lk, ls[j]? = some l ∧ v = l.val (ρ.rd a (l.code (f + j)) (i.ev ρ))
  | [], f, _ => ⟨trivial, rfl, fun j v hv => by simp [rdL, SV.evs] at hv⟩
  | l :: ls, f, h => by
    obtain ⟨a1, a2, a3⟩ := rdL_spec (ls := ls) (f := f + 1) fun j l' hl => by
      have := h (j + 1) l' (by simpa using hl)
      rwa [show f + 1 + j = f + (j + 1) by omega]
    have h0 := h 0 l rfl
    obtain ⟨b1, b2⟩ := rd_spec (β := β) (n := n) h0
    refine ⟨⟨b2, a1⟩, by simp [rdL, a2], fun j v hv => ?_⟩
    match j with
    | 0 =>
      simp only [rdL, SV.evs, List.getElem?_cons_zero, Option.some.injEq] at hv
      exact ⟨l, rfl, by rw [← hv]; exact b1⟩
    | j + 1 =>
      simp only [rdL, SV.evs, List.getElem?_cons_succ] at hv
      obtain ⟨l', c1, c2⟩ := a3 j v hv
      exact ⟨l', by simpa using c1, by rw [c2, show f + 1 + j = f + (j + 1) by omega]⟩
theorem loadI_run {hp : Hp} {t : TypeId} {k z off : Nat} {len0 i : E} {r : SV} (hs : Sees ρ β n hp w) (hk : (SV.iptr k z len0 i off).ok ρ n) (h : loadI P hp t k z len0 i off = some r) :
    (Instr.loadAt t ((SV.iptr k z len0 i off).ev ρ β)).run P w = .ok (r.ev ρ β) w ∧ r.ok ρ n := by
  unfold loadI at h
  split at h
  · rename_i rw_ a ks len0' hb
    split at h
    · rename_i hc
      obtain ⟨hz, hl0⟩ := hc
      obtain rfl := E.beq_eq _ _ hl0
      have hl := hs.lies k _ hb
      simp only [Bx.lies] at hl
      split at h
      · rename_i ie f he
        obtain ⟨c1, c2, c3⟩ := elemOf_spec (N := (len0.ev ρ).toNat) he hk.2.1 hk.2.2
        have hie : 0 ≤ ie.ev ρ := by
          unfold elemOf at he
          split at he
          · split at he
            · simp only [Option.some.injEq, Prod.mk.injEq] at he
              obtain ⟨rfl, _⟩ := he
              exact Int.natCast_nonneg _
            · cases he
          · split at he
            · simp only [Option.some.injEq, Prod.mk.injEq] at he
              obtain ⟨rfl, _⟩ := he
              exact hk.2.1
            · cases he
        have hnat : ((ie.ev ρ).toNat : Int) = ie.ev ρ := Int.toNat_of_nonneg hie
        have hcell : ∀ (g : Nat) (l : Lk), ks[g]? = some l → w.cell? ⟨(β k).1, (β k).2 + ((ie.ev ρ).toNat * z + g), none⟩ = some (l.val (ρ.rd a (l.code g) (ie.ev ρ))) ∧ l.fits (ρ.rd a (l.code g) (ie.ev ρ)) := fun g l hg => by
          have := hl (ie.ev ρ).toNat g l c1 hg
          rw [hnat, ← hz] at this
          exact this
        simp only [SV.ev]
        rw [c3]
        unfold readI at h
        split at h
        · rename_i m ha hm
          split at h
          · rename_i hfm
            obtain rfl := Option.some.inj h
            have hget : ∀ j l, ((ks.drop f).take m)[j]? = some l → ks[f + j]? = some l := fun j l hj => by
              rw [List.getElem?_take] at hj
              split at hj
              · rwa [List.getElem?_drop] at hj
              · cases hj
            obtain ⟨a1, a2, a3⟩ := rdL_spec (ρ := ρ) (β := β) (n := n) (a := a) (i := ie) (ls := (ks.drop f).take m) (f := f) fun j l hj => (hcell _ l (hget j l hj)).2
            refine ⟨?_, a1⟩
            have hlen : (SV.evs ρ β (rdL a ie ((ks.drop f).take m) f)).length = m := by rw [SV.evs_map]; simp [a2]; omega
            have hld : (loadCells ⟨(β k).1, (β k).2 + ((ie.ev ρ).toNat * z + f), none⟩ (SV.evs ρ β (rdL a ie ((ks.drop f).take m) f)).length).run P w = .ok (SV.evs ρ β (rdL a ie ((ks.drop f).take m) f)).toArray w :=
              run_loadCells_list w _ _ fun j v hv => by
                obtain ⟨l, e1, e2⟩ := a3 j v hv
                rw [add_lit, e2, show (β k).2 + ((ie.ev ρ).toNat * z + f) + j = (β k).2 + ((ie.ev ρ).toNat * z + (f + j)) by omega]
                exact (hcell _ l (hget j l e1)).1
            rw [hlen] at hld
            simp only [SV.ev, Instr.loadAt, Instr.sureAddr, Sem.run_bind, Sem.run_pure, Result.andThen_ok, loadVar, aggT_run ha w, if_true, szOf_run hm w, hld]
          · cases h
        · rename_i m ha hm
          cases hg : ks[f]? with
          | none => simp [hg] at h
          | some l =>
            simp only [hg, Option.map_some, Option.some.injEq] at h
            subst h
            obtain ⟨d1, d2⟩ := hcell f l hg
            obtain ⟨b1, b2⟩ := rd_spec (β := β) (n := n) d2
            refine ⟨?_, b2⟩
            rw [b1]
            simp only [Instr.loadAt, Instr.sureAddr, Sem.run_bind, Sem.run_pure, Result.andThen_ok, loadVar, aggT_run ha w, Bool.false_eq_true, if_false, run_load, d1]
        · cases h
      · cases h
    · cases h
  · cases h
theorem run_boundE {k : IntKind} {e : E} {y : Nat} (h0 : 0 ≤ e.ev ρ) (h1 : e.ev ρ ≤ y) (code : BoundsCode) (w : World) : (Instr.sliceBound ((SV.int k e).ev ρ β) y code).run P w = .ok (e.ev ρ).toNat w := by
  have n1 : ¬ e.ev ρ < 0 := by omega
  have n2 : ¬ (y : Int) < e.ev ρ := by omega
  simp [Instr.sliceBound, SV.ev, asIntOf, h0, h1, n1, n2]
theorem run_boundsE {lo hi : Option SV} {len h : E} {cap : Nat} {l : Nat} (hl : lowE lo = some l) (hh : highE len hi = some h) (h0 : (l : Int) ≤ h.ev ρ) (h1 : h.ev ρ ≤ cap) (w : World) :
    (Instr.sliceBounds true (len.ev ρ).toNat cap (lo.map (SV.ev ρ β)) (hi.map (SV.ev ρ β)) none).run P w = .ok (l, (h.ev ρ).toNat, cap) w := by
  have hlo : ∀ code, ∀ s, lo = some s → (Instr.sliceBound (s.ev ρ β) (h.ev ρ).toNat code).run P w = .ok l w := fun code s hs => by
    subst hs
    obtain ⟨k, rfl⟩ := natLit_spec hl
    have n2 : ¬ (h.ev ρ).toNat < l := by omega
    have n3 : l ≤ (h.ev ρ).toNat := by omega
    simp [Instr.sliceBound, SV.ev, E.ev, asIntOf, n2, n3]
    omega
  cases hi with
  | none =>
    obtain rfl := Option.some.inj hh
    cases lo with
    | none => obtain rfl := Option.some.inj hl; simp [Instr.sliceBounds]
    | some s => simp [Instr.sliceBounds, hlo _ s rfl]
  | some s' =>
    have hhi : ∀ code, (Instr.sliceBound (s'.ev ρ β) cap code).run P w = .ok (h.ev ρ).toNat w := fun code => by
      unfold highE at hh
      split at hh
      · rename_i he; cases he
      · rename_i k e he
        obtain rfl := Option.some.inj hh
        obtain rfl := Option.some.inj he
        exact run_boundE (by omega) h1 code w
      · cases hh
    cases lo with
    | none => obtain rfl := Option.some.inj hl; simp [Instr.sliceBounds, hhi]
    | some s => simp [Instr.sliceBounds, hhi, hlo _ s rfl]
theorem indexI_run {t : TypeId} {k z off : Nat} {len0 len cap e : E} {ki : IntKind} {r : SV} (hf : FsOk ρ fs) (hk : (SV.inp k z off len0 len cap).ok ρ n) (h : indexI P fs t k z off len0 len e = some r) (w : World) :
    (Instr.indexAt t ((SV.inp k z off len0 len cap).ev ρ β) ((SV.int ki e).ev ρ β)).run P w = .ok (r.ev ρ β) w ∧ r.ok ρ n := by
  unfold indexI at h
  split at h
  · rename_i et hu
    split at h
    · rename_i hc
      obtain ⟨hz, hr, hz0⟩ := hc
      obtain ⟨r1, r2⟩ := inRng_spec hf hr
      obtain ⟨k1, k2, k3, k4, k5⟩ := hk
      have hlt : (e.ev ρ).toNat < (len.ev ρ).toNat := by omega
      have hbd : (e.ev ρ).toNat * z + off < (len0.ev ρ).toNat * z ∨ z = 0 := by
        rcases Nat.eq_zero_or_pos z with h0 | h0
        · exact .inr h0
        · refine .inl ?_
          have := Nat.mul_le_mul_right z (show (e.ev ρ).toNat + 1 ≤ (len.ev ρ).toNat by omega)
          rw [Nat.add_mul] at this
          omega
      have hnn : ((e.ev ρ).toNat : Int) = e.ev ρ := Int.toNat_of_nonneg r1
      have hrun : (Instr.indexAt t ((SV.inp k z off len0 len cap).ev ρ β) ((SV.int ki e).ev ρ β)).run P w = .ok (.pointer (some ⟨(β k).1, (β k).2 + ((e.ev ρ).toNat * z + off), none⟩)) w := by
        have h1 : ¬ e.ev ρ < 0 := by omega
        have h2 : ¬ (len.ev ρ).toNat ≤ (e.ev ρ).toNat := by omega
        simp [Instr.indexAt, run_underlying hu w, SV.ev, asIntOf, Instr.sureAddr, szOf_run hz w, add_lit, hlt, r1, h1, h2, hnn]
        rw [if_pos (by omega), Nat.add_assoc, Nat.add_comm off]
      have hbd := hbd.resolve_right (by omega)
      split at h
      · rename_i m _
        obtain rfl := Option.some.inj h
        refine ⟨?_, k1, Int.le_refl _, ?_⟩
        · rw [hrun]
          simp only [SV.ev, E.ev]
          have : (Int.ofNat m).toNat = m := rfl
          rw [this]
          simp
        · have e0 : (E.ev ρ (.lit (Int.ofNat m))).toNat = m := rfl
          rw [e0] at hbd
          simp only [E.ev]
          simpa using hbd
      · obtain rfl := Option.some.inj h
        exact ⟨hrun, k1, r1, hbd⟩
    · cases h
  · cases h
theorem sliceI_run {t : TypeId} {k z off : Nat} {len0 len cap : E} {lo hi : Option SV} {r : SV} (hf : FsOk ρ fs) (hk : (SV.inp k z off len0 len cap).ok ρ n) (h : sliceI P fs t k z off len0 len cap lo hi = some r) (w : World) :
    (Instr.sliceAt t ((SV.inp k z off len0 len cap).ev ρ β) (lo.map (SV.ev ρ β)) (hi.map (SV.ev ρ β)) none).run P w = .ok (r.ev ρ β) w ∧ r.ok ρ n := by
  unfold sliceI at h
  split at h
  · rename_i et l hE hu hl hh
    split at h
    · rename_i hc
      obtain ⟨hz, hle, hle2⟩ := hc
      obtain ⟨k1, k2, k3, k4, k5⟩ := hk
      have e1 := leK_spec hf hle
      have e2 := leK_spec hf hle2
      have el : E.ev ρ (.lit (Int.ofNat l)) = (l : Int) := rfl
      rw [el] at e1
      have hb := run_boundsE (P := P) (β := β) (cap := (cap.ev ρ).toNat) hl hh e1 (by omega) w
      have wl := (wf_iff .i64 _).1 k2
      have i1 : IntKind.i64.min = -9223372036854775808 := by decide
      have i2 : IntKind.i64.max = 9223372036854775807 := by decide
      rw [i1, i2] at wl
      have hmul := Nat.mul_le_mul_right z (show (hE.ev ρ).toNat ≤ (len.ev ρ).toNat by omega)
      split at h
      · rename_i h0
        subst h0
        obtain rfl := Option.some.inj h
        refine ⟨?_, k1, (wf_iff .i64 _).2 (by rw [i1, i2]; omega), by simpa using e1, by omega, by omega⟩
        simp [Instr.sliceAt, Instr.slice, run_underlying hu w, SV.ev, hb, szOf_run hz w, add_lit]
      · split at h
        · rename_i h0 hlt
          obtain rfl := Option.some.inj h
          have e3 := ltK_spec hf hlt
          rw [el] at e3
          have hsub : (mk .sub .i64 hE (.lit (Int.ofNat l))).ev ρ = hE.ev ρ - l := by
            rw [mk_ev]
            show IntKind.i64.wrap (hE.ev ρ - l) = _
            rw [IntKind.wrap_i64]
            omega
          have hcap : (E.bin .zadd .i64 cap (.lit (-Int.ofNat l))).ev ρ = cap.ev ρ - l := by
            show cap.ev ρ + (-Int.ofNat l) = _
            rw [Int.ofNat_eq_natCast]; omega
          have hmz : ((hE.ev ρ - l).toNat) * z + l * z = (hE.ev ρ).toNat * z := by
            rw [← Nat.add_mul]; congr 1; omega
          refine ⟨?_, k1, ?_, by rw [hsub]; omega, by rw [hsub, hcap]; omega, by rw [hsub]; omega⟩
          · have n1 : ¬ (cap.ev ρ).toNat = l := by omega
            have q1 : (hE.ev ρ).toNat - l = (hE.ev ρ - l).toNat := by omega
            have q2 : (cap.ev ρ).toNat - l = (cap.ev ρ - l).toNat := by omega
            simp only [SV.ev, hsub, hcap] at hb ⊢
            simp only [Instr.sliceAt, Instr.slice, Sem.run_bind, run_underlying hu w, Result.andThen_ok, SV.ev, Option.map_none, hb, szOf_run hz w, Sem.run_pure]
            simp only [if_neg n1, add_lit, Option.map_some, q1, q2, Nat.add_assoc]
          · rw [hsub]
            exact (wf_iff .i64 _).2 (by rw [i1, i2]; omega)
        · cases h
    · cases h
  · cases h
theorem strI_run {hp : Hp} {src dst : TypeId} {k z off : Nat} {len0 len cap : E} {r : SV} (hf : FsOk ρ fs) (hs : Sees ρ β n hp w) (hk : (SV.inp k z off len0 len cap).ok ρ n) (h : strI P hp fs src dst k z off len0 len = some r) :
    (convert src dst ((SV.inp k z off len0 len cap).ev ρ β)).run P w = .ok (r.ev ρ β) w ∧ r.ok ρ n := by
  unfold strI at h
  split at h
  · rename_i e rw_ a len0' m hsrc hdst hb hcn
    split at h
    · rename_i he
      split at h
      · rename_i hc
        obtain ⟨rfl, hl0⟩ := hc
        obtain rfl := E.beq_eq _ _ hl0
        obtain rfl := Option.some.inj h
        have hl := hs.lies k _ hb
        simp only [Bx.lies] at hl
        obtain ⟨k1, k2, k3, k4, k5⟩ := hk
        have hlen : len.ev ρ = m := by
          have := canon_ev (ρ := ρ) (fs := fs) hf len
          rw [hcn] at this
          exact this.symm
        have hm : (len.ev ρ).toNat = m := by omega
        have hcell : ∀ j, j < m → w.cell? ⟨(β k).1, (β k).2 + (off + j), none⟩ = some (.int .u8 (ρ.rd a 4 (Int.ofNat (off + j)))) ∧ (Lit.int .u8 (ρ.rd a 4 (Int.ofNat (off + j)))).wf = true := fun j hj => by
          have := hl (off + j) 0 (.int .u8) (by omega) rfl
          simp only [List.length_cons, List.length_nil, Nat.zero_add, Nat.mul_one, Nat.add_zero] at this
          exact this
        have hes : ∀ m', E.evs ρ ((List.range m').map fun j => .rd a 4 (.lit (Int.ofNat (off + j)))) = (List.range m').map fun j => ρ.rd a 4 (Int.ofNat (off + j)) := fun m' => by
          have : ∀ l : List Nat, E.evs ρ (l.map fun j => .rd a 4 (.lit (Int.ofNat (off + j)))) = l.map fun j => ρ.rd a 4 (Int.ofNat (off + j)) := fun l => by
            induction l with
            | nil => rfl
            | cons x l ih => simp only [List.map_cons, E.evs, ih]; rfl
          exact this _
        constructor
        · have hld : (loadCells ⟨(β k).1, (β k).2 + off, none⟩ ((List.range m).map fun j => Value.int .u8 (ρ.rd a 4 (Int.ofNat (off + j)))).length).run P w = .ok ((List.range m).map fun j => Value.int .u8 (ρ.rd a 4 (Int.ofNat (off + j)))).toArray w :=
            run_loadCells_list w _ _ fun j v hv => by
              rw [add_lit]
              rw [List.getElem?_map] at hv
              by_cases hj : j < m
              · rw [List.getElem?_range hj] at hv
                obtain rfl := Option.some.inj hv
                rw [Nat.add_assoc]
                exact (hcell j hj).1
              · rw [List.getElem?_eq_none (by simpa using hj)] at hv
                cases hv
          rw [List.length_map, List.length_range] at hld
          simp only [convert, Sem.run_bind, run_underlying hsrc w, run_underlying hdst w, Result.andThen_ok, SV.ev, run_underlying he w, Conv.bytesToString, hm, hld]
          have hmm : (List.range m).map (fun j => Value.int .u8 (ρ.rd a 4 (Int.ofNat (off + j)))) = ((List.range m).map fun j => ρ.rd a 4 (Int.ofNat (off + j))).map (Value.int .u8) := by rw [List.map_map]; rfl
          rw [hmm]
          rw [← Array.forIn_toList, bytes_loop P w _ (fun _ _ => rfl) _ .empty]
          simp only [Result.andThen_ok, Sem.run_pure, bytesV, hes]
          congr 3
          apply Array.ext'
          simp
        · intro x hx
          rw [hes] at hx
          obtain ⟨j, hj, rfl⟩ := List.mem_map.1 hx
          have := (wf_iff .u8 _).1 (hcell j (List.mem_range.1 hj)).2
          rw [show IntKind.u8.min = 0 by decide, show IntKind.u8.max = 255 by decide] at this
          exact ⟨this.1, by have := this.2; omega⟩
      · cases h
    · cases h
  · cases h
theorem nil_ne {t e : TypeId} (hu : P.underlying t = some (.slice e)) (d : Nat) (p : Addr) (l c l' c' : Nat) (w : World) : (Op.equalIn (d + 1) t (.slice (some p) l c) (.slice none l' c')).run P w = .ok false w := by
  simp [Op.equalIn, run_underlying hu w]
set_option maxHeartbeats 1000000 in
theorem inpS_run {hp : Hp} {g : Operand → SV} {o : Oper} {r : SV} {a : Act} (hg : ∀ x, (g x).ev ρ β = a.eval x) (hk : ∀ x, (g x).ok ρ n) (hs : Sees ρ β n hp w) (hf : FsOk ρ fs) (h : inpS P fs hp g o = some r) :
    (execOp a.eval o).run P w = .ok (.value (r.ev ρ β)) w ∧ r.ok ρ n := by
  unfold inpS at h
  split at h
  · rename_i t x ho
    split at h
    · rename_i k z len0 i off hx
      have ek := hk x; have ex := hg x
      rw [hx] at ek ex
      have := loadI_run hs ek h
      rw [ex] at this
      exact ⟨by simp only [execOp, ho, Sem.run_bind, this.1, Result.andThen_ok, Sem.run_pure], this.2⟩
    · cases h
  · rename_i t x i ho
    split at h
    · rename_i k z off len0 len cap ki e hx hi
      have ek := hk x; have ex := hg x; have ei := hg i
      rw [hx] at ek ex
      rw [hi] at ei
      have := indexI_run (β := β) (ki := ki) hf ek h w
      rw [ex, ei] at this
      exact ⟨by simp only [execOp, ho, Sem.run_bind, this.1, Result.andThen_ok, Sem.run_pure], this.2⟩
    · cases h
  · rename_i t x f ho
    split at h
    · rename_i k z len0 i off fds hx hu
      have ek := hk x; have ex := hg x
      rw [hx] at ek ex
      split at h
      · rename_i fd hfd
        split at h
        · rename_i m hz
          split at h
          · rename_i hlt
            obtain rfl := Option.some.inj h
            obtain ⟨k1, k2, k3⟩ := ek
            have hz0 : 0 < z := by omega
            refine ⟨?_, k1, k2, ?_⟩
            · have hrun : (Instr.fieldAt t (a.eval x) f).run P w = .ok ((SV.iptr k z len0 i (off + fd.offset)).ev ρ β) w := by
                rw [← ex]
                simp [Instr.fieldAt, run_underlying hu w, hfd, SV.ev, Instr.sureAddr, fieldPlace, szOf_run hz w, add_lit, Nat.add_assoc]
              simp only [execOp, ho, Sem.run_bind, hrun, Result.andThen_ok, Sem.run_pure]
            · have hd := Nat.div_add_mod off z
              have e2 : (i.ev ρ).toNat * z + off = ((i.ev ρ).toNat + off / z) * z + off % z := by rw [Nat.add_mul, Nat.mul_comm (off / z) z]; omega
              rw [e2] at k3
              have h1 : (i.ev ρ).toNat + off / z < (len0.ev ρ).toNat := Nat.lt_of_mul_lt_mul_right (a := z) (by omega)
              have h2 := Nat.mul_le_mul_right z (show (i.ev ρ).toNat + off / z + 1 ≤ (len0.ev ρ).toNat from h1)
              rw [Nat.add_mul ((i.ev ρ).toNat + off / z)] at h2
              omega
          · cases h
        · cases h
      · cases h
    · cases h
  · rename_i x ho
    split at h
    · rename_i k z len0 i off hx
      obtain rfl := Option.some.inj h
      have ek := hk x; have ex := hg x
      rw [hx] at ek ex
      exact ⟨by simp only [execOp, ho, ← ex, SV.ev, Sem.run_pure], ek⟩
    · cases h
  · rename_i t x lo hi ho
    split at h
    · rename_i k z off len0 len cap hx
      have ek := hk x; have ex := hg x
      rw [hx] at ek ex
      have := sliceI_run (β := β) hf ek h w
      refine ⟨?_, this.2⟩
      have h1 := this.1
      rw [ex] at h1
      simp only [Option.map_map] at h1
      have he : (SV.ev ρ β ∘ g) = a.eval := funext hg
      rw [he] at h1
      simp only [execOp, ho, Sem.run_bind, Option.map_none, h1, Result.andThen_ok, Sem.run_pure]
    · cases h
  · rename_i s d x ho
    split at h
    · rename_i k z off len0 len cap hx
      have ek := hk x; have ex := hg x
      rw [hx] at ek ex
      have := strI_run hf hs ek h
      rw [ex] at this
      exact ⟨by simp only [execOp, ho, Sem.run_bind, this.1, Result.andThen_ok, Sem.run_pure], this.2⟩
    · cases h
  · rename_i as ts ho
    split at h
    · rename_i x t has ht
      split at h
      · rename_i e k z off len0 len cap hu hx
        obtain rfl := Option.some.inj h
        have ek := hk x; have ex := hg x
        rw [hx] at ek ex
        obtain ⟨k1, k2, k3, k4, k5⟩ := ek
        refine ⟨?_, k2⟩
        have has' : as = #[x] := by
          apply Array.ext'
          simpa using has
        subst has'
        have hnn : ((len.ev ρ).toNat : Int) = len.ev ρ := Int.toNat_of_nonneg k3
        simp only [SV.ev] at ex
        simp [execOp, ho, resolve, invoke, builtin, Builtin.len_, ht, run_underlying hu w, ← ex, SV.ev, goInt, hnn]
      · cases h
    · cases h
  · rename_i t x y yt ho
    split at h
    · rename_i e k z off len0 len cap b c hu hx hy
      obtain rfl := Option.some.inj h
      have ex := hg x; have ey := hg y
      rw [hx] at ex
      rw [hy] at ey
      refine ⟨?_, trivial⟩
      have h2 := eqGuardOK_run (P := P) (ρ := ρ) (β := β) (t := t) (x := .inp k z off len0 len cap) (y := .raw (.slice none b c)) rfl .eql x y w
      rw [ex, ey] at h2
      have hq : (Op.equalIn Op.maxDepth t ((SV.inp k z off len0 len cap).ev ρ β) ((SV.raw (.slice none b c)).ev ρ β)).run P w = .ok false w := by
        exact nil_ne hu 9999 _ _ _ _ _ w
      simp only [SV.ev] at hq
      simp only [execOp, ho, Sem.run_bind, h2, Result.andThen_ok]
      rw [← ex, ← ey]
      simp [SV.ev, binOp, Op.equal, hq, E.ev]
    · cases h
  · rename_i t x y yt ho
    split at h
    · rename_i e k z off len0 len cap b c hu hx hy
      obtain rfl := Option.some.inj h
      have ex := hg x; have ey := hg y
      rw [hx] at ex
      rw [hy] at ey
      refine ⟨?_, trivial⟩
      have h2 := eqGuardOK_run (P := P) (ρ := ρ) (β := β) (t := t) (x := .inp k z off len0 len cap) (y := .raw (.slice none b c)) rfl .neq x y w
      rw [ex, ey] at h2
      have hq : (Op.equalIn Op.maxDepth t ((SV.inp k z off len0 len cap).ev ρ β) ((SV.raw (.slice none b c)).ev ρ β)).run P w = .ok false w := by
        exact nil_ne hu 9999 _ _ _ _ _ w
      simp only [SV.ev] at hq
      simp only [execOp, ho, Sem.run_bind, h2, Result.andThen_ok]
      rw [← ex, ← ey]
      simp [SV.ev, binOp, Op.equal, hq, E.ev]
    · cases h
  · cases h
theorem concN_holds {α : Type} {e : E} {f : Int → List (E × Bool) → T α} {Q : α → Prop} : ∀ (k : Nat) (m : Int) (fs : List (E × Bool)), FsOk ρ fs → m ≤ e.ev ρ → e.ev ρ ≤ m + k → (concN e f k m fs).holds ρ Q → ∃ fs', FsOk ρ fs' ∧ (f (e.ev ρ) fs').holds ρ Q
  | 0, m, fs, hf, h1, h2, h => ⟨fs, hf, by
    have : e.ev ρ = m := by omega
    rw [this]; exact h⟩
  | k + 1, m, fs, hf, h1, h2, h => by
    unfold concN at h
    obtain ⟨fs', hf', h'⟩ := split_holds hf h
    simp only [E.ev, BOp.ev] at h'
    rcases h' with ⟨h3, h4⟩ | ⟨h3, h4⟩
    · have : e.ev ρ = m := by
        by_cases hx : e.ev ρ = m
        · exact hx
        · simp [hx] at h3
      exact ⟨fs', hf', by rw [this]; exact h4⟩
    · have : e.ev ρ ≠ m := fun hx => by simp [hx] at h3
      exact concN_holds k (m + 1) fs' hf' (by omega) (by omega) h4
theorem concT_holds {α : Type} {e : E} {f : Int → List (E × Bool) → T α} {Q : α → Prop} (hf : FsOk ρ fs) (h : (concT fs e f).holds ρ Q) : ∃ fs', FsOk ρ fs' ∧ (f (e.ev ρ) fs').holds ρ Q := by
  have ha := (ana_ok hf e).2
  unfold concT at h
  split at h
  · rename_i lo hi hlo hhi
    split at h
    · have h1 := ha.1 lo hlo
      have h2 := ha.2 hi hhi
      exact concN_holds _ _ _ hf h1 (by omega) h
    · exact h.elim
  · exact h.elim
theorem pureS'_run {hp : Hp} {g : Operand → SV} {o : Oper} {r : SV} {a : Act} (hg : ∀ x, (g x).ev ρ β = a.eval x) (hk : ∀ x, (g x).ok ρ n) (hs : Sees ρ β n hp w) (hf : FsOk ρ fs) (h : pureS' P fs hp g o = some r) :
    (execOp a.eval o).run P w = .ok (.value (r.ev ρ β)) w ∧ r.ok ρ n := by
  unfold pureS' at h
  split at h
  · rename_i r' hr
    obtain rfl := Option.some.inj h
    obtain ⟨q1, q2⟩ := pureS_run hg hk hs hr
    obtain ⟨s1, s2⟩ := simpB_spec hf r' β n
    rw [s1]
    exact ⟨q1, s2 q2⟩
  · exact inpS_run hg hk hs hf h
end
end Go.Proofs.YthbfjnmdjehljaaDoor.SX
