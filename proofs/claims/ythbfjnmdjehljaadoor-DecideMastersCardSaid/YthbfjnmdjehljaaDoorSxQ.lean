/- All pure operations in one function. Of no program. -/
import Derived.Test.YthbfjnmdjehljaaDoorSxB
namespace Go.Proofs.YthbfjnmdjehljaaDoor.SX
open Go
set_option linter.unusedVariables false
set_option linter.unusedSimpArgs false

section
variable {P : Program} {ρ : Env} {β : Bm} {w : World} {n : Nat}
theorem boundS_some {s : SV} {d y m : Nat} (h : boundS (some s) d y = some m) : (∃ k, s = .int k (.lit (m : Int))) ∧ m ≤ y := by
  unfold boundS at h
  simp only at h
  split at h
  · rename_i q hq
    split at h
    · rename_i hle
      obtain rfl := Option.some.inj h
      exact ⟨natLit_spec hq, hle⟩
    · cases h
  · cases h
theorem run_bound {s : SV} {d y m : Nat} (h : boundS (some s) d y = some m) (code : BoundsCode) (w : World) : (Instr.sliceBound (s.ev ρ β) y code).run P w = .ok m w := by
  obtain ⟨⟨k, rfl⟩, hle⟩ := boundS_some h
  simp [Instr.sliceBound, SV.ev, E.ev, asIntOf, hle]
theorem run_bounds {lo hi : Option SV} {isSlice : Bool} {len cap h l : Nat} (hh : boundS hi len cap = some h) (hl : boundS lo 0 h = some l) (w : World) :
    (Instr.sliceBounds isSlice len cap (lo.map (SV.ev ρ β)) (hi.map (SV.ev ρ β)) none).run P w = .ok (l, h, cap) w := by
  cases hi with
  | none =>
    obtain rfl := Option.some.inj hh
    cases lo with
    | none => obtain rfl := Option.some.inj hl; simp [Instr.sliceBounds]
    | some s => simp [Instr.sliceBounds, run_bound (P := P) (ρ := ρ) (β := β) hl _ w]
  | some s' =>
    cases lo with
    | none => obtain rfl := Option.some.inj hl; simp [Instr.sliceBounds, run_bound (P := P) (ρ := ρ) (β := β) hh _ w]
    | some s => simp [Instr.sliceBounds, run_bound (P := P) (ρ := ρ) (β := β) hh _ w, run_bound (P := P) (ρ := ρ) (β := β) hl _ w]
theorem sliceS_run {t : TypeId} {x r : SV} {lo hi mx : Option SV} (hx : x.ok ρ n) (h : sliceS P t x lo hi mx = some r) (w : World) :
    (Instr.sliceAt t (x.ev ρ β) (lo.map (SV.ev ρ β)) (hi.map (SV.ev ρ β)) (mx.map (SV.ev ρ β))).run P w = .ok (r.ev ρ β) w ∧ r.ok ρ n := by
  unfold sliceS at h
  split at h
  · cases h
  · split at h
    · rename_i e b off len cap hu
      split at h
      · rename_i h' z hh hz
        split at h
        · rename_i l hl
          obtain rfl := Option.some.inj h
          refine ⟨?_, hx⟩
          have hb := run_bounds (P := P) (ρ := ρ) (β := β) (isSlice := true) hh hl w
          simp only [Instr.sliceAt, Instr.slice, Sem.run_bind, run_underlying hu w, Result.andThen_ok, SV.ev, Option.getD_some, Option.map_none, hb, szOf_run hz w, Sem.run_pure]
          split <;> simp [add_lit]
        · cases h
      · cases h
    · rename_i e hu
      split at h
      · rename_i h' z hh hz
        split at h
        · rename_i l hl
          obtain rfl := Option.some.inj h
          refine ⟨?_, trivial⟩
          have hb := run_bounds (P := P) (ρ := ρ) (β := β) (isSlice := true) hh hl w
          have hh0 : h' = 0 := by
            cases hi with
            | none => exact (Option.some.inj hh).symm
            | some s => have := (boundS_some hh).2; omega
          have hl0 : l = 0 := by
            cases lo with
            | none => exact (Option.some.inj hl).symm
            | some s => have := (boundS_some hl).2; omega
          subst hh0 hl0
          simp only [Instr.sliceAt, Instr.slice, Sem.run_bind, run_underlying hu w, Result.andThen_ok, SV.ev, Option.getD_some, Option.map_none, hb, szOf_run hz w, Sem.run_pure]
          rfl
        · cases h
      · cases h
    · rename_i k e b off hu
      split at h
      · rename_i h' z hh hz
        split at h
        · rename_i l hl
          obtain rfl := Option.some.inj h
          refine ⟨?_, hx⟩
          have hb := run_bounds (P := P) (ρ := ρ) (β := β) (isSlice := false) hh hl w
          simp only [Instr.sliceAt, Instr.sureAddr, Sem.run_bind, run_underlying hu w, Result.andThen_ok, SV.ev, Option.getD_some, Option.map_none, hb, szOf_run hz w, Sem.run_pure]
          split <;> simp [add_lit]
        · cases h
      · cases h
    · cases h
theorem intLit_spec {m : Nat} {r : SV} (h : intLit m = some r) : r.ev ρ β = .int .i64 m ∧ r.ok ρ n := by
  unfold intLit at h
  split at h
  · rename_i hr
    obtain rfl := Option.some.inj h
    exact ⟨rfl, hr⟩
  · cases h
theorem builtinS_run {b : Builtin} {ts : Array TypeId} {args : List SV} {r : SV} (ha : SV.oks ρ n args) (h : builtinS P b ts args = some r) (ty : TypeId) (cs : Array Bool) (w : World) :
    (builtin b ts ty cs (SV.evs ρ β args).toArray).run P w = .ok (.value (r.ev ρ β)) w ∧ r.ok ρ n := by
  unfold builtinS at h
  split at h
  · rename_i x
    split at h
    · rename_i t ht
      split at h
      · rename_i e b' o l c hu
        obtain ⟨h1, h2⟩ := intLit_spec (ρ := ρ) (β := β) (n := n) h
        refine ⟨?_, h2⟩
        simp [builtin, Builtin.len_, ht, SV.evs, run_underlying hu w, SV.ev, goInt, h1]
      · rename_i e b' l c hu
        obtain ⟨h1, h2⟩ := intLit_spec (ρ := ρ) (β := β) (n := n) h
        refine ⟨?_, h2⟩
        simp [builtin, Builtin.len_, ht, SV.evs, run_underlying hu w, SV.ev, goInt, h1]
      · rename_i k e hu
        obtain ⟨h1, h2⟩ := intLit_spec (ρ := ρ) (β := β) (n := n) h
        refine ⟨?_, h2⟩
        simp [builtin, Builtin.len_, ht, SV.evs, run_underlying hu w, SV.ev, goInt, h1]
      · cases h
    · cases h
  · rename_i x
    split at h
    · rename_i t ht
      split at h
      · rename_i e b' o l c hu
        obtain ⟨h1, h2⟩ := intLit_spec (ρ := ρ) (β := β) (n := n) h
        refine ⟨?_, h2⟩
        simp [builtin, Builtin.cap_, ht, SV.evs, run_underlying hu w, SV.ev, goInt, h1]
      · cases h
    · cases h
  · rename_i k a j b
    split at h
    · rename_i hk
      obtain rfl := kTag_inj hk
      obtain rfl := Option.some.inj h
      obtain ⟨h1, h2, _⟩ := ha
      refine ⟨?_, ?_⟩
      · simp [builtin, Builtin.min_, Builtin.min2, SV.evs, SV.ev, mk_ev, BOp.ev]
      · simp only [SV.ok, mk_ev, BOp.ev]; split <;> assumption
    · cases h
  · rename_i k a j b
    split at h
    · rename_i hk
      obtain rfl := kTag_inj hk
      obtain rfl := Option.some.inj h
      obtain ⟨h1, h2, _⟩ := ha
      refine ⟨?_, ?_⟩
      · simp [builtin, Builtin.max_, Builtin.max2, SV.evs, SV.ev, mk_ev, BOp.ev]
      · simp only [SV.ok, mk_ev, BOp.ev]; split <;> assumption
    · cases h
  · cases h
end

def eqGuardOK (P : Program) (t : TypeId) (x y : SV) : Bool :=
  match x, y with
  | .agg _, .agg _ => !P.eqGuardType P.depth t
  | .raw .nilIface, _ => false
  | .raw (.agg _), _ => false
  | _, .raw (.agg _) => false
  | _, _ => true
theorem eqGuardOK_run {P : Program} {ρ : Env} {β : Bm} {t : TypeId} {x y : SV} (h : eqGuardOK P t x y = true) (op : BinOp) (X Y : Operand) (w : World) : (eqGuard op t X Y (x.ev ρ β) (y.ev ρ β)).run P w = .ok () w := by
  unfold eqGuardOK at h
  split at h
  · exact run_eqGuard_agg w op t X Y _ _ (by simpa using h)
  · cases h
  · cases h
  · cases h
  · rename_i h1 h2 h3 h4
    cases x with
    | raw v => cases v <;> first | (exact (h1 rfl).elim) | (exact (h2 _ rfl).elim) | (cases op <;> simp [eqGuard, SV.ev]; done)
    | agg l => cases y with
      | raw v => cases v <;> first | (exact (h3 _ rfl).elim) | (cases op <;> simp [eqGuard, SV.ev])
      | agg m => exact (h4 _ _ rfl rfl).elim
      | _ => cases op <;> simp [eqGuard, SV.ev]
    | _ => cases op <;> simp [eqGuard, SV.ev]

def byteEs : List SV → Option (List E)
  | [] => some []
  | .int .u8 e :: l => (byteEs l).map fun es => e :: es
  | _ => none
/-- []byte as a string. -/
def convStrS (P : Program) (hp : Hp) (src dst : TypeId) (s : SV) : Option SV :=
  match P.underlying src, P.underlying dst with
  | some (.slice e), some .string => match P.underlying e with
    | some (.int .u8) => match s with
      | .raw (.slice none _ _) => some (.str [])
      | .slice b off len _ => match cellsAt hp b with
        | some c => if off + len ≤ c.length then (byteEs ((c.drop off).take len)).map .str else none
        | none => none
      | _ => none
    | _ => none
  | _, _ => none
theorem byteEs_spec {ρ : Env} {β : Bm} {n : Nat} : ∀ {l : List SV} {es : List E}, SV.oks ρ n l → byteEs l = some es → SV.evs ρ β l = (E.evs ρ es).map (.int .u8) ∧ (∀ x ∈ E.evs ρ es, 0 ≤ x ∧ x < 256) ∧ es.length = l.length
  | [], es, _, h => by obtain rfl := Option.some.inj h; exact ⟨rfl, (fun x hx => by cases hx), rfl⟩
  | s :: l, es, hk, h => by
    cases s with
    | int k e =>
      cases k <;> simp only [byteEs, reduceCtorEq] at h
      cases he : byteEs l with
      | none => simp [he] at h
      | some es' =>
        simp only [he, Option.map_some, Option.some.injEq] at h
        subst h
        obtain ⟨a1, a2, a3⟩ := byteEs_spec (β := β) hk.2 he
        refine ⟨by simp [SV.evs, E.evs, SV.ev, a1], fun x hx => ?_, by simp [a3]⟩
        rcases List.mem_cons.1 hx with rfl | hx
        · have := (wf_iff .u8 _).1 hk.1
          simp [IntKind.min, IntKind.max, IntKind.bits, IntKind.signed] at this
          omega
        · exact a2 x hx
    | _ => cases h
theorem bytes_loop (P : Program) (w : World) (f : Value → ByteArray → Sem (ForInStep ByteArray)) (hf : ∀ (n : Int) (r : ByteArray), f (.int .u8 n) r = pure (ForInStep.yield (r.push (UInt8.ofNat n.toNat)))) :
    ∀ (l : List Int) (acc : ByteArray), (forIn (l.map (Value.int .u8)) acc f).run P w = .ok ⟨acc.data ++ (l.map fun n => UInt8.ofNat n.toNat).toArray⟩ w
  | [], acc => by simp
  | n :: l, acc => by
    simp only [List.map_cons, List.forIn_cons, hf, Sem.run_bind, Sem.run_pure, Result.andThen_ok]
    rw [bytes_loop P w f hf l]
    congr 2
    apply Array.ext'
    simp [ByteArray.push]
theorem convStrS_run {P : Program} {ρ : Env} {β : Bm} {n : Nat} {hp : Hp} {w : World} {src dst : TypeId} {s r : SV} (hs : Sees ρ β n hp w) (h : convStrS P hp src dst s = some r) : (convert src dst (s.ev ρ β)).run P w = .ok (r.ev ρ β) w ∧ r.ok ρ n := by
  unfold convStrS at h
  split at h
  · rename_i e hsrc hdst
    split at h
    · rename_i he
      split at h
      · rename_i l c
        obtain rfl := Option.some.inj h
        refine ⟨?_, (fun x hx => by cases hx)⟩
        simp [convert, run_underlying hsrc w, run_underlying hdst w, run_underlying he w, SV.ev, Conv.bytesToString, bytesV, E.evs]
        rfl
      · rename_i b off len cap
        split at h
        · rename_i c hc
          split at h
          · rename_i hle
            obtain ⟨hcell, hgood⟩ := cellsAt_spec hs hc
            cases hb : byteEs ((c.drop off).take len) with
            | none => simp [hb] at h
            | some es =>
              simp only [hb, Option.map_some, Option.some.injEq] at h
              subst h
              obtain ⟨a1, a2, a3⟩ := byteEs_spec (β := β) (oks_part hgood off len) hb
              refine ⟨?_, a2⟩
              have hlen : (SV.evs ρ β ((c.drop off).take len)).length = len := by rw [SV.evs_map]; simp; omega
              have hl : (loadCells ⟨(β b).1, off, none⟩ (SV.evs ρ β ((c.drop off).take len)).length).run P w = .ok (SV.evs ρ β ((c.drop off).take len)).toArray w :=
                run_loadCells_list w _ _ fun j v hv => by
                  rw [add_lit]
                  refine hcell _ v ?_
                  rw [SV.evs_map, List.getElem?_map, List.getElem?_take] at hv
                  split at hv
                  · rw [List.getElem?_drop] at hv
                    rw [SV.evs_map, List.getElem?_map]
                    exact hv
                  · cases hv
              rw [hlen, a1] at hl
              simp only [convert, Sem.run_bind, run_underlying hsrc w, run_underlying hdst w, Result.andThen_ok, SV.ev, run_underlying he w, Conv.bytesToString, hl]
              rw [← Array.forIn_toList, bytes_loop P w _ (fun _ _ => rfl) (E.evs ρ es) .empty]
              simp only [Result.andThen_ok, Sem.run_pure, bytesV]
              congr 3
              apply Array.ext'
              simp
          · cases h
        · cases h
      · cases h
    · cases h
  · cases h

/-- What a pure operation yields, out of its operands. -/
def pureS (P : Program) (hp : Hp) (g : Operand → SV) (o : Oper) : Option SV :=
  match o.op with
  | .move x => some (g x)
  | .assign x => some (g x)
  | .load t a => loadS P hp t (g a)
  | .binOp op t x y _ => if eqGuardOK P t (g x) (g y) then binS P op t (g x) (g y) else none
  | .unOp op _ x => unS op (g x)
  | .convert s d x => match convS P s d (g x) with
    | some r => some r
    | none => convStrS P hp s d (g x)
  | .fieldAddr t x f => faddrS P t (g x) f
  | .field t x f => fieldS P t (g x) f
  | .indexAddr t x i => iaddrS P t (g x) (g i)
  | .index t x i => indexS P t (g x) (g i)
  | .extract x i => match g x with
    | .tuple l => l[i]?
    | _ => none
  | .makeFunc (.func f) a b => some (.func f (a.toList.map g) (b.toList.map g))
  | .nilCheck x => match g x with
    | .ptr b off => some (.ptr b off)
    | .func f a b => some (.func f a b)
    | _ => none
  | .build t ps => buildS P t (ps.toList.map fun p => (p.1, g p.2))
  | .slice t x lo hi mx => sliceS P t (g x) (lo.map g) (hi.map g) (mx.map g)
  | .call { callee := .builtin b, args := as, argTypes := ts } => builtinS P b ts (as.toList.map g)
  | .pick c a b => match g c with
    | .bool (.lit m) => some (if m = 0 then g b else g a)
    | _ => none
  | _ => none

section
variable {P : Program} {ρ : Env} {β : Bm} {w : World} {n : Nat}
theorem list_map_ev {g : Operand → SV} {a : Act} (hg : ∀ x, (g x).ev ρ β = a.eval x) (l : Array Operand) : SV.evs ρ β (l.toList.map g) = (l.map a.eval).toList := by
  rw [SV.evs_map, List.map_map]
  simp only [Array.toList_map]
  exact List.map_congr_left fun x _ => hg x
theorem list_map_ok {g : Operand → SV} (hg : ∀ x, (g x).ok ρ n) (l : List Operand) : SV.oks ρ n (l.map g) := by
  rw [SV.oks_mem]
  intro s hs
  obtain ⟨x, _, rfl⟩ := List.mem_map.1 hs
  exact hg x
set_option maxHeartbeats 1000000 in
theorem pureS_run {hp : Hp} {g : Operand → SV} {o : Oper} {r : SV} {a : Act} (hg : ∀ x, (g x).ev ρ β = a.eval x) (hk : ∀ x, (g x).ok ρ n) (hs : Sees ρ β n hp w) (h : pureS P hp g o = some r) :
    (execOp a.eval o).run P w = .ok (.value (r.ev ρ β)) w ∧ r.ok ρ n := by
  obtain ⟨dst, op, type, pos, after, guard⟩ := o
  cases op <;> simp only [pureS, reduceCtorEq] at h
  case move x => obtain rfl := Option.some.inj h; exact ⟨by simp [execOp, hg], hk x⟩
  case assign x => obtain rfl := Option.some.inj h; exact ⟨by simp [execOp, hg], hk x⟩
  case pick c x y =>
    split at h
    · rename_i m hm
      obtain rfl := Option.some.inj h
      have hc := hg c
      rw [hm] at hc
      refine ⟨?_, by split <;> exact hk _⟩
      simp only [execOp, ← hc, SV.ev, E.ev, asBool, Sem.run_bind, Sem.run_pure, Result.andThen_ok]
      by_cases h0 : m = 0 <;> simp [h0, hg]
    · cases h
  case build t ps =>
    have := buildS_run (β := β) (n := n) (ρ := ρ) (parts := ps.map fun p => (p.1, g p.2)) (by
      intro p hp'
      simp only [Array.toList_map, List.mem_map] at hp'
      obtain ⟨q, _, rfl⟩ := hp'
      exact hk _) (by simpa using h) w
    refine ⟨?_, this.2⟩
    have h1 := this.1
    simp only [Array.map_map] at h1
    have he : ((fun p : Nat × SV => (p.1, SV.ev ρ β p.2)) ∘ fun p : Nat × Operand => (p.1, g p.2)) = fun p => (p.1, a.eval p.2) := funext fun p => by simp [hg]
    rw [he] at h1
    simp only [execOp, Sem.run_bind]
    rw [show (fun x : Nat × Operand => match x with | (i, x) => (i, a.eval x)) = fun p => (p.1, a.eval p.2) from rfl, h1]
    rfl
  case load t x =>
    have := loadS_run hs h
    rw [hg] at this
    exact ⟨by simp only [execOp, Sem.run_bind, this.1, Result.andThen_ok, Sem.run_pure], this.2⟩
  case nilCheck x =>
    split at h
    · rename_i b off hx
      obtain rfl := Option.some.inj h
      have := hg x
      rw [hx] at this
      exact ⟨by simp only [execOp, ← this, SV.ev, Sem.run_pure], by have := hk x; rwa [hx] at this⟩
    · rename_i f u v hx
      obtain rfl := Option.some.inj h
      have := hg x
      rw [hx] at this
      exact ⟨by simp only [execOp, ← this, SV.ev, Sem.run_pure], by have := hk x; rwa [hx] at this⟩
    · cases h
  case binOp op t x y yt =>
    split at h
    · rename_i hgd
      have := binS_run (β := β) (hk x) (hk y) h w
      have h2 := eqGuardOK_run (ρ := ρ) (β := β) hgd op x y w
      rw [hg, hg] at this h2
      refine ⟨?_, this.2⟩
      simp only [execOp, Sem.run_bind, h2, Result.andThen_ok, this.1, Sem.run_pure]
    · cases h
  case unOp op t x =>
    have := unS_run (β := β) (n := n) (P := P) (ρ := ρ) h w
    rw [hg] at this
    exact ⟨by simp only [execOp, Sem.run_bind, this.1, Result.andThen_ok, Sem.run_pure], this.2⟩
  case convert s d x =>
    split at h
    · rename_i q hq
      obtain rfl := Option.some.inj h
      have := convS_run (β := β) (n := n) (P := P) (ρ := ρ) hq w
      rw [hg] at this
      exact ⟨by simp only [execOp, Sem.run_bind, this.1, Result.andThen_ok, Sem.run_pure], this.2⟩
    · have := convStrS_run hs h
      rw [hg] at this
      exact ⟨by simp only [execOp, Sem.run_bind, this.1, Result.andThen_ok, Sem.run_pure], this.2⟩
  case makeFunc fn u v =>
    cases fn <;> simp only [reduceCtorEq] at h
    obtain rfl := Option.some.inj h
    refine ⟨?_, list_map_ok hk _, list_map_ok hk _⟩
    simp only [execOp, Instr.makeFunc, Sem.run_bind, Sem.run_pure, Result.andThen_ok, SV.ev, list_map_ev hg, Array.toArray_toList]
  case slice t x lo hi mx =>
    have := sliceS_run (β := β) (hk x) h w
    refine ⟨?_, this.2⟩
    have h1 := this.1
    simp only [Option.map_map, hg] at h1
    have he : (SV.ev ρ β ∘ g) = a.eval := funext hg
    rw [he] at h1
    simp only [execOp, Sem.run_bind, h1, Result.andThen_ok, Sem.run_pure]
  case fieldAddr t x f =>
    have := faddrS_run (β := β) (hk x) h w
    rw [hg] at this
    exact ⟨by simp only [execOp, Sem.run_bind, this.1, Result.andThen_ok, Sem.run_pure], this.2⟩
  case field t x f =>
    have := fieldS_run (β := β) (hk x) h w
    rw [hg] at this
    exact ⟨by simp only [execOp, Sem.run_bind, this.1, Result.andThen_ok, Sem.run_pure], this.2⟩
  case indexAddr t x i =>
    have := iaddrS_run (β := β) (hk x) h w
    rw [hg, hg] at this
    exact ⟨by simp only [execOp, Sem.run_bind, this.1, Result.andThen_ok, Sem.run_pure], this.2⟩
  case index t x i =>
    have := indexS_run (β := β) (hk x) h w
    rw [hg, hg] at this
    exact ⟨by simp only [execOp, Sem.run_bind, this.1, Result.andThen_ok, Sem.run_pure], this.2⟩
  case extract x i =>
    split at h
    · rename_i l hx
      have ex := hg x; have kx := hk x
      rw [hx] at ex kx
      refine ⟨?_, oks_get kx h⟩
      simp only [execOp, Sem.run_bind, ← ex, SV.ev, Instr.extract]
      rw [List.getElem?_toArray, SV.evs_map, List.getElem?_map, h]
      rfl
    · cases h
  case call c =>
    obtain ⟨callee, args, ts⟩ := c
    cases callee <;> simp only [reduceCtorEq] at h
    rename_i b
    have := builtinS_run (β := β) (list_map_ok hk _) h type (args.map fun | .const _ => true | _ => false) w
    rw [list_map_ev hg, Array.toArray_toList] at this
    refine ⟨?_, this.2⟩
    simp only [execOp, resolve, invoke, Sem.run_bind, Sem.run_pure, Result.andThen_ok]
    exact this.1
end
end Go.Proofs.YthbfjnmdjehljaaDoor.SX
