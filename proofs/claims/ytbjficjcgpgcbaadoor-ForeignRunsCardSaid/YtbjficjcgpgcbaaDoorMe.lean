/- The executor: laws with plain data and slices, functions named by their trees; of no program. -/
import Derived.Test.YtbjficjcgpgcbaaDoorMd
import Derived.Test.YtbjficjcgpgcbaaDoorMo
namespace Go.Proofs.YtbjficjcgpgcbaaDoor.SX
open Go Go.ChangeShapes Go.WideShapes Go.ChangeAt Go.RowKit Go.Deep
set_option linter.unusedVariables false
set_option linter.unusedSimpArgs false

def lkOf (P : Program) (t : TypeId) : Option Lk :=
  match P.underlying t with
  | some .bool => some .bool
  | some (.int k) => some (.int k)
  | _ => none
def lksOf (P : Program) : List TypeId → Option (List Lk)
  | [] => some []
  | t :: ts => match lkOf P t, lksOf P ts with
    | some l, some ls => some (l :: ls)
    | _, _ => none
def shOf (P : Program) (t : TypeId) : Option Sh :=
  match P.underlying t with
  | some (.struct _) => match flatTs P 6 t with
    | some ts => (lksOf P ts).map .agg
    | none => none
  | _ => (lkOf P t).map .one
def shsOf (P : Program) : List TypeId → Option (List Sh)
  | [] => some []
  | t :: ts => match shOf P t, shsOf P ts with
    | some h, some hs => some (h :: hs)
    | _, _ => none
section
variable {P : Program} {W : World} {base : Nat} {H : Type} {enc : TypeId × Value → H}
theorem leaf_lk {t : TypeId} {v : Value} {l : Lk} (hl : lkOf P t = some l) (h : Leaf P t v) : ∃ n, v = l.val n ∧ l.fits n := by
  unfold lkOf at hl
  split at hl
  · rename_i hu
    obtain rfl := Option.some.inj hl
    obtain ⟨b, rfl⟩ := h.bool hu
    exact ⟨if b then 1 else 0, (by cases b <;> simp [Lk.val]), trivial⟩
  · rename_i k hu
    obtain rfl := Option.some.inj hl
    obtain ⟨n, rfl, hw⟩ := h.int hu
    exact ⟨n, rfl, hw⟩
  · cases hl
theorem vals_append : ∀ {ls : List Lk} {ns ms : List Int}, ns.length = ls.length → vals ls (ns ++ ms) = vals ls ns ∧ (SX.fits ls (ns ++ ms) ↔ SX.fits ls ns)
  | [], ns, ms, h => ⟨rfl, Iff.rfl⟩
  | l :: ls, [], ms, h => by simp at h
  | l :: ls, n :: ns, ms, h => by
    obtain ⟨a, b⟩ := vals_append (ls := ls) (ns := ns) (ms := ms) (by simpa using h)
    simp only [List.cons_append, vals, SX.fits, List.headD_cons, List.tail_cons, a, b]
    exact ⟨trivial, trivial⟩
theorem all2_lks : ∀ {ts : List TypeId} {ls : List Lk} {cs : List Value}, lksOf P ts = some ls → All2 (Leaf P) ts cs → ∃ ns : List Int, ns.length = ls.length ∧ cs = vals ls ns ∧ SX.fits ls ns
  | [], ls, cs, hl, h => by
    obtain rfl := Option.some.inj hl
    cases h
    exact ⟨[], rfl, rfl, trivial⟩
  | t :: ts, ls, cs, hl, h => by
    unfold lksOf at hl
    split at hl
    · rename_i l ls' h1 h2
      obtain rfl := Option.some.inj hl
      cases h with
      | cons hv hr =>
        obtain ⟨n, rfl, hf⟩ := leaf_lk h1 hv
        obtain ⟨ns, h3, rfl, h5⟩ := all2_lks h2 hr
        exact ⟨n :: ns, by simp [h3], rfl, hf, h5⟩
    · cases hl
theorem open_sh {t : TypeId} {h : Sh} {v : Value} {d : DataW H} {p : List MemPlace} (hs : shOf P t = some h) (hv : Value.okWide P W .any base t v) (ht : DataW.Trod enc P W 0 (fun _ => true) true t v d p) :
    ∃ ns : List Int, ns.length = h.size ∧ v = h.val ns ∧ h.fits ns := by
  unfold shOf at hs
  split at hs
  · rename_i fs hu
    split at hs
    · rename_i ts hf
      cases hl : lksOf P ts with
      | none => simp [hl] at hs
      | some ls =>
        simp only [hl, Option.map_some, Option.some.injEq] at hs
        subst hs
        obtain ⟨cs, rfl, hall⟩ := open_flat hu hf hv ht
        obtain ⟨ns, h1, rfl, h3⟩ := all2_lks hl hall
        exact ⟨ns, h1, rfl, h3⟩
    · cases hs
  · rename_i hne
    cases hl : lkOf P t with
    | none => simp [hl] at hs
    | some l =>
      simp only [hl, Option.map_some, Option.some.injEq] at hs
      subst hs
      unfold lkOf at hl
      split at hl
      · rename_i hu
        obtain rfl := Option.some.inj hl
        obtain ⟨b, rfl, _, _⟩ := open_bool hu hv ht
        exact ⟨[if b then 1 else 0], rfl, (by cases b <;> simp [Sh.val, Lk.val]), trivial⟩
      · rename_i k hu
        obtain rfl := Option.some.inj hl
        obtain ⟨n, rfl, _, _, hw⟩ := open_int hu hv ht
        exact ⟨[n], rfl, rfl, hw⟩
      · cases hl
theorem Sh.val_append {h : Sh} {ns ms : List Int} (hl : ns.length = h.size) : h.val (ns ++ ms) = h.val ns ∧ (h.fits (ns ++ ms) ↔ h.fits ns) := by
  cases h with
  | one l =>
    match ns, hl with
    | [n], _ => exact ⟨rfl, Iff.rfl⟩
  | agg ls =>
    obtain ⟨a, b⟩ := vals_append (ls := ls) (ms := ms) hl
    exact ⟨by simp only [Sh.val, a], b⟩
theorem open_args : ∀ {ts : List TypeId} {hs : List Sh} {vs : List Value} {ds : List (DataW H)} {p : List MemPlace}, shsOf P ts = some hs → (∀ (j : Nat) t v, ts[j]? = some t → vs[j]? = some v → Value.okWide P W .any base t v) →
    DataW.TrodAll enc P W 0 (fun _ => true) true ts vs ds p → ∃ ns : List Int, vs = shVals hs ns ∧ shFits hs ns
  | [], hs, vs, ds, p, h, _, hA => by
    obtain rfl := Option.some.inj h
    cases vs with
    | nil => exact ⟨[], rfl, trivial⟩
    | cons v vs => cases ds <;> exact hA.elim
  | t :: ts, hs, [], ds, p, _, _, hA => by cases ds <;> exact hA.elim
  | t :: ts, hs, v :: vs, ds, p, h, hval, hA => by
    unfold shsOf at h
    split at h
    · rename_i h1 hs1 hh hhs
      obtain rfl := Option.some.inj h
      cases ds with
      | nil => exact hA.elim
      | cons d ds =>
        obtain ⟨p0, q0, a0, a1, _⟩ := hA
        obtain ⟨ns, n1, rfl, n3⟩ := open_sh hh (hval 0 t v rfl rfl) a0
        obtain ⟨ms, rfl, m2⟩ := open_args hhs (fun j t v ht hv => hval (j + 1) t v (by simpa using ht) (by simpa using hv)) a1
        refine ⟨ns ++ ms, ?_, ?_⟩
        · simp only [shVals]
          rw [(Sh.val_append n1).1, ← n1, List.drop_left]
        · simp only [shFits]
          rw [(Sh.val_append n1).2, ← n1, List.drop_left]
          exact ⟨n3, m2⟩
    · cases h
/-- The walk of a law's row, out of its calls at plain data. -/
theorem pays_flat {X : World → Prop} {F : FuncId} {fn : Func} {hs : List Sh} (hsh : shsOf P fn.params.toList = some hs)
    (hlaw : ∀ ns : List Int, shFits hs ns → ∀ W, X W → Calls P F (shVals hs ns).toArray W fun e W' => e = .returned (.bool true) ∧ Below W.heap.size W W')
    (W : World) (base : Nat) (args : Array Value) (ds : List (DataW H)) (p : List MemPlace)
    (hval : ∀ (j : Nat) t v, fn.params[j]? = some t → args[j]? = some v → Value.okWide P W .any base t v) (hA : DataW.TrodAll enc P W 0 (fun _ => true) true fn.params.toList args.toList ds p) (_ : ∀ x ∈ p, x.block < W.heap.size) (hX : X W) : Pays P F args W := by
  obtain ⟨ns, h1, h2⟩ := open_args hsh (fun j t v ht hv => hval j t v (by simpa using ht) (by simpa using hv)) hA
  have : args = (shVals hs ns).toArray := by rw [← h1]
  rw [this]
  exact hlaw ns h2 W hX
/-- A law's row without listed variables. -/
theorem law_lifted0 {C : Checked} {os : Os} {F : FuncId} {fn : Func} {s : ChangeSpec} {tb : TypeId}
    (hout : laidOutB C.prog = true) (own : ownKnob C.prog.godebug = none) (started : os.Started) (noInit : C.prog.inits.idxOf? F = none) (hfn : C.prog.funcs[F]? = some fn)
    (hvars : s.vars = []) (hspec : ∀ ds : List (DataW H), ds.length = fn.params.size → s.fn H (ds ++ []) = { results := [.lit (.bool true)], args := ds })
    (hres : fn.resultTypes = #[tb]) (hb : C.prog.underlying tb = some .bool) (hparams : (fn.params.toList.all fun t => C.prog.readableRec t && decide (t < C.prog.types.size)) = true)
    (witness : ∃ (w : World) (tape : Tape) (i : Input), w.os = os ∧ (w.forCall tape i).Shaped C.prog ∧ i.vars = [] ∧ Input.okWide C.prog (w.forCall tape i) .any w.heap.size F i ∧
      s.pre6 enc C.prog fn [] false (w.forCall tape i).memory i.args ∧ Assume.holds {} C.prog (lone (Frame.enter C.prog F i.args .normal) [] (w.forCall tape i)))
    (walk : ∀ (W : World) (base : Nat) (args : Array Value) (ds : List (DataW H)) (p : List MemPlace),
      (∀ (j : Nat) t v, fn.params[j]? = some t → args[j]? = some v → Value.okWide C.prog W .any base t v) →
      DataW.TrodAll enc C.prog W 0 (fun _ => true) true fn.params.toList args.toList ds p → (∀ x ∈ p, x.block < W.heap.size) → True → Pays C.prog F args W) :
    ReturnsInHanded {} C os F .any (s.pre6 enc C.prog fn [] false) (s.post enc C.prog fn false true false false) := by
  refine returnsInHanded_of_change (C := C) own started noInit hfn witness ?_
  intro W base args ds gs before hval hW _ _
  have hW' := hW
  obtain ⟨p, q, hA, hV, rfl, _, _⟩ := hW
  obtain ⟨rfl, rfl⟩ : gs = [] ∧ q = [] := by
    rw [hvars] at hV
    exact trodVars_none hV
  have hlt : ∀ x ∈ p, x.block < W.heap.size := fun x hx => hW'.lt x (by simpa using hx)
  have hlen : ds.length = fn.params.size := by
    have : ∀ (ts : List TypeId) (vs : List Value) (ds : List (DataW H)) (ps : List MemPlace), DataW.TrodAll enc C.prog W 0 (fun _ => true) true ts vs ds ps → ds.length = ts.length := by
      intro ts
      induction ts with
      | nil => intro vs ds ps h; cases vs <;> cases ds <;> first | rfl | exact h.elim
      | cons t ts ih =>
        intro vs ds ps h
        cases vs with
        | nil => cases ds <;> exact h.elim
        | cons v vs =>
          cases ds with
          | nil => exact h.elim
          | cons d ds => obtain ⟨_, _, _, h1, _⟩ := h; simp [ih _ _ _ h1]
    simpa using this _ _ _ _ hA
  refine (walk W base args ds p hval hA hlt trivial).mono fun e W' ⟨he, hg⟩ => ?_
  subst he
  refine ⟨_, rfl, ds, [], p ++ [], [], p, [], hW', ?_, ?_, ?_, ?_, fun h => by cases h⟩
  · rw [hspec ds hlen, hres]
    exact trodAll_mk1 (shut_bool hb true)
  · rw [hspec ds hlen]
    exact Below.trodAll hout hg (fun t ht => by simpa using List.all_eq_true.1 hparams t ht) hA hlt _ (fun x hx => by simpa using hlt x hx)
  · rw [hspec ds hlen, hvars]
    rfl
  · exact World.keptBut_mono (fun x hx => ⟨hx, Or.inr (Or.inl (by simpa using hx))⟩) (hg.frame (· ∈ p ++ []))
end
end Go.Proofs.YtbjficjcgpgcbaaDoor.SX
namespace Go.Proofs.YtbjficjcgpgcbaaDoor.SX
open Go Go.RowKit
set_option linter.unusedVariables false

/-- Facts that cannot be. -/
def absurdF (fs : Fs) : Fs → Bool
  | [] => false
  | (c, b) :: l => (match canon fs c with
    | .lit n => (n != 0) != b
    | _ => false) || absurdF fs l
theorem absurdF_spec {ρ : Env} {fs : Fs} (hf : FsOk ρ fs) : ∀ {l : Fs}, FsOk ρ l → absurdF fs l = true → False
  | [], _, h => by cases h
  | (c, b) :: l, hl, h => by
    simp only [absurdF, Bool.or_eq_true] at h
    rcases h with h | h
    · split at h
      · rename_i n hn
        have h1 := canon_ev (ρ := ρ) (fs := fs) hf c
        have h2 := hl (c, b) (List.mem_cons_self ..)
        simp only at h2
        rw [← h1, hn] at h2
        simp only [E.ev] at h2
        cases b <;> by_cases h0 : n = 0 <;> simp_all
      · cases h
    · exact absurdF_spec hf (fun p hp => hl p (List.mem_cons_of_mem _ hp)) h
/-- An end that is true by its facts, or that cannot be. -/
def isTrueF (o : Out) : Bool :=
  (match o.v with
  | .bool e => match decideE o.fs e with
    | some b => b
    | none => false
  | _ => false) || absurdF o.fs o.fs
theorem isTrueF_spec {ρ : Env} {o : Out} (hf : FsOk ρ o.fs) (h : isTrueF o = true) (β : Bm) : o.v.ev ρ β = .bool true := by
  simp only [isTrueF, Bool.or_eq_true] at h
  rcases h with ho | ho
  · split at ho
    · rename_i e hv
      split at ho
      · rename_i b hb
        subst ho
        have := decideE_spec hf hb
        rw [hv]
        simp only [SV.ev, this]
      · cases ho
    · cases ho
  · exact (absurdF_spec hf hf ho).elim
def lkFacts : Lk → Nat → Fs
  | .int k, i => [(.bin .zrng k (.var i) (.lit 0), true)]
  | .bool, _ => []
def lksFacts : List Lk → Nat → Fs
  | [], _ => []
  | l :: ls, i => lkFacts l i ++ lksFacts ls (i + 1)
def shFacts : Sh → Nat → Fs
  | .one l, i => lkFacts l i
  | .agg ls, i => lksFacts ls i
/-- The ranges of the variables. -/
def varFacts : List Sh → Nat → Fs
  | [], _ => []
  | h :: hs, i => shFacts h i ++ varFacts hs (i + h.size)
section
variable {F : Nat → Nat → List Int → Int} {ns : List Int}
theorem lkFacts_ok {l : Lk} {i : Nat} (h : l.fits (ns.getD i 0)) : FsOk (envOf F ns) (lkFacts l i) := by
  intro p hp
  cases l with
  | bool => cases hp
  | int k =>
    obtain rfl : p = (.bin .zrng k (.var i) (.lit 0), true) := by simpa [lkFacts] using hp
    have := (wf_iff k _).1 h
    show (if k.min ≤ ns.getD i 0 ∧ ns.getD i 0 ≤ k.max then (1 : Int) else 0) ≠ 0 ↔ true = true
    rw [if_pos this]
    simp
theorem fsOk_app {ρ : Env} {a b : Fs} (ha : FsOk ρ a) (hb : FsOk ρ b) : FsOk ρ (a ++ b) := fun p hp => (List.mem_append.1 hp).elim (ha p) (hb p)
theorem lksFacts_ok : ∀ {ls : List Lk} {i : Nat}, SX.fits ls (ns.drop i) → FsOk (envOf F ns) (lksFacts ls i)
  | [], _, _ => fun p hp => by cases hp
  | l :: ls, i, h => by
    simp only [SX.fits, headD_drop, List.tail_drop] at h
    exact fsOk_app (lkFacts_ok h.1) (lksFacts_ok h.2)
theorem varFacts_ok : ∀ {hs : List Sh} {i : Nat}, shFits hs (ns.drop i) → FsOk (envOf F ns) (varFacts hs i)
  | [], _, _ => fun p hp => by cases hp
  | h :: hs, i, hf => by
    simp only [shFits, List.drop_drop] at hf
    refine fsOk_app ?_ (varFacts_ok hf.2)
    cases h with
    | one l =>
      have h1 := hf.1
      simp only [Sh.fits, headD_drop] at h1
      exact lkFacts_ok h1
    | agg ls => exact lksFacts_ok hf.1
end
section
variable {P : Program} {ρ : Env} {w : World}
/-- A law all of whose ways end with true, by their facts. -/
theorem pays_facts {okF : FuncId → Bool} {sums : Sums} {keep : FuncId → Nat → List Nat} {fuel n : Nat} (tabs : Tabs) (hd : (tabs.map (·.1)).Nodup) (ht : TabsIn tabs w) (hm : P.follows .mixedOrders = true) (hok : ∀ f, okF f = true → ∀ as w, (callFunc f as).run P w = .ok (.enter f as) w)
    {f : FuncId} {args : List SV} {fs0 : Fs} (hfs : FsOk ρ fs0) (hsum : SumsOk P ρ w (fun _ => False) sums) (hargs : SV.oks ρ 0 args) (hfl : SV.flats args = true) (h : (callF P (tabGl tabs 0) okF sums keep fuel n f args (tabHp tabs) fs0).holds ρ fun o => isTrueF o = true) :
    Calls P f (SV.evs ρ β0 args).toArray w fun e w' => e = .returned (.bool true) ∧ Below w.heap.size w w' := by
  rw [SV.evs_flat β0 (tabB tabs) args hfl]
  refine ((callF_run (gl := tabGl tabs 0) hm hok hsum n f args (tabHp tabs) fs0 (tabB tabs) w (fun v w' => v = .bool true ∧ Below w.heap.size w w') (tab_heap hd ht _ ρ) hfs (SV.oks_mono (Nat.zero_le _) _ hargs)
    (tab_gl (fun j p hj => by simp [tabB, hj]) (by simp [tabHp]))
    (T.holds_mono (fun o ho β' w' _ _ _ hh hf _ => ?_) h)).2).mono fun e w' ⟨v, he, hv, hb⟩ => ⟨by rw [he, hv], hb⟩
  exact ⟨isTrueF_spec hf ho β', hh.kept.to_below⟩
end
end Go.Proofs.YtbjficjcgpgcbaaDoor.SX
namespace Go.Proofs.YtbjficjcgpgcbaaDoor.SX
open Go Go.ChangeShapes Go.WideShapes Go.ChangeAt Go.RowKit Go.Deep
set_option linter.unusedVariables false
set_option linter.unusedSimpArgs false

/-- Parameters: plain data, or a slice of plain data. -/
inductive Ph where
  | sh (h : Sh) | sl (ks : List Lk)
def phOf (P : Program) (t : TypeId) : Option Ph :=
  match P.underlying t with
  | some (.slice e) => match flatTs P 6 e with
    | some ts => match lksOf P ts with
      | some ks => if P.cellsOf e = ts.length ∧ 0 < ts.length then some (.sl ks) else none
      | none => none
    | none => none
  | _ => (shOf P t).map .sh
def phsOf (P : Program) : List TypeId → Option (List Ph)
  | [] => some []
  | t :: ts => match phOf P t, phsOf P ts with
    | some h, some hs => some (h :: hs)
    | _, _ => none
def phVals : List Ph → List Int → List Value → List Value
  | [], _, _ => []
  | .sh h :: l, ns, ss => h.val ns :: phVals l (ns.drop h.size) ss
  | .sl _ :: l, ns, ss => ss.headD undef :: phVals l ns ss.tail
def phFits : List Ph → List Int → Prop
  | [], _ => True
  | .sh h :: l, ns => h.fits ns ∧ phFits l (ns.drop h.size)
  | .sl _ :: l, ns => phFits l ns
def phSize : List Ph → Nat
  | [] => 0
  | .sh h :: l => h.size + phSize l
  | .sl _ :: l => phSize l
def plains : List Ph → List Sh
  | [] => []
  | .sh h :: l => h :: plains l
  | .sl _ :: l => plains l
/-- A slice that comes in: nil, or elements that lie in memory. -/
def InSl (w : World) (ks : List Lk) (S : Value) : Prop := S = .slice none 0 0 ∨
  ∃ (b off len cap : Nat) (c : Nat → Nat → Int), S = .slice (some ⟨b, off, none⟩) len cap ∧ len ≤ cap ∧ cap ≤ maxLen ∧ (0 < len → b < w.heap.size) ∧
    ∀ (i f : Nat) (l : Lk), ks[f]? = some l → l.fits (c f i) ∧ (i < len → w.cell? ⟨b, off + (i * ks.length + f), none⟩ = some (l.val (c f i)))
def slFits (w : World) : List Ph → List Value → Prop
  | [], _ => True
  | .sh _ :: l, ss => slFits w l ss
  | .sl ks :: l, ss => InSl w ks (ss.headD undef) ∧ slFits w l ss.tail
theorem vals_get : ∀ {ls : List Lk} {ns : List Int} (f : Nat), (vals ls ns)[f]? = (ls[f]?).map fun l => l.val (ns.getD f 0)
  | [], ns, f => by simp [vals]
  | l :: ls, ns, 0 => by cases ns <;> simp [vals]
  | l :: ls, ns, f + 1 => by
    simp only [vals, List.getElem?_cons_succ]
    rw [vals_get f]
    cases ns <;> simp
theorem fits_get : ∀ {ls : List Lk} {ns : List Int} (f : Nat) (l : Lk), SX.fits ls ns → ls[f]? = some l → l.fits (ns.getD f 0)
  | [], ns, f, l, _, h => by simp at h
  | l :: ls, ns, 0, l', h, hl => by
    obtain rfl := Option.some.inj hl
    have := h.1
    cases ns <;> simpa using this
  | l :: ls, ns, f + 1, l', h, hl => by
    have := fits_get f l' h.2 (by simpa using hl)
    cases ns <;> simpa using this
theorem fits_zero (l : Lk) : l.fits 0 := by
  cases l with
  | int k => show (Lit.int k 0).wf = true; cases k <;> decide
  | bool => trivial
section
variable {P : Program} {W : World} {base : Nat} {H : Type} {enc : TypeId × Value → H}
theorem open_sl {t : TypeId} {ks : List Lk} {v : Value} {d : DataW H} {p : List MemPlace} (hs : phOf P t = some (.sl ks)) (hv : Value.okWide P W .any base t v) (ht : DataW.Trod enc P W 0 (fun _ => true) true t v d p) : InSl W ks v := by
  unfold phOf at hs
  split at hs
  · rename_i e hu
    split at hs
    · rename_i ts hf
      split at hs
      · rename_i ks' hl
        split at hs
        · rename_i hc
          simp only [Option.some.injEq, Ph.sl.injEq] at hs
          subst hs
          obtain ⟨A, len, cap, xs, rfl, hlen, hcap, hmax, hnil, hsl, hall⟩ := open_slice_flat hu hf hc.1 hc.2 hv ht
          have hkl : ks'.length = ts.length := by
            have : ∀ (ts : List TypeId) (ls : List Lk), lksOf P ts = some ls → ls.length = ts.length := by
              intro ts
              induction ts with
              | nil => intro ls h; obtain rfl := Option.some.inj h; rfl
              | cons t ts ih =>
                intro ls h
                unfold lksOf at h
                split at h
                · rename_i l ls' h1 h2
                  obtain rfl := Option.some.inj h
                  simp [ih _ h2]
                · cases h
            exact this ts ks' hl
          obtain ⟨L, rfl, hok⟩ := all_map (f := vals ks') (Q := fun ns => SX.fits ks' ns) xs (fun x hx => by
            obtain ⟨ns, _, h2, h3⟩ := all2_lks hl (hall x hx)
            exact ⟨ns, h2, h3⟩)
          cases A with
          | none =>
            have h0 := hnil rfl
            subst h0
            obtain rfl : len = 0 := by omega
            exact .inl rfl
          | some a =>
            have hspot : a.spot = none := by
              unfold Value.okWide at hv
              rw [hu] at hv
              simp only [Cell.okWide, hu, Cell.ok] at hv
              exact hv.2.2.2.1
            obtain ⟨b, off, s⟩ := a
            simp only at hspot
            subst hspot
            refine .inr ⟨b, off, len, cap, fun f i => (L.getD i []).getD f 0, rfl, hcap, hmax, fun h0 => ?_, fun i f l hfl => ?_⟩
            · obtain ⟨b', off', e, hb, _⟩ := hsl (by omega)
              simp only [Option.some.injEq, Addr.mk.injEq] at e
              rw [e.1]; exact hb
            · show l.fits ((L.getD i []).getD f 0) ∧ (i < len → _ = some (l.val ((L.getD i []).getD f 0)))
              by_cases hi : i < L.length
              · have hget : L.getD i [] = L[i] := by simp [hi]
                rw [hget]
                refine ⟨fits_get f l (hok _ (List.getElem_mem hi)) hfl, fun hil => ?_⟩
                obtain ⟨b', off', e, hb, hcell⟩ := hsl (by omega)
                simp only [Option.some.injEq, Addr.mk.injEq] at e
                obtain ⟨rfl, rfl, _⟩ := e
                have := hcell i (vals ks' L[i]) (by simp [hi]) f (l.val (L[i].getD f 0)) (by rw [vals_get, hfl]; rfl)
                rw [hkl, ← Nat.add_assoc]
                exact this
              · have hget : L.getD i [] = [] := by simp [hi]
                rw [hget]
                refine ⟨by simpa using fits_zero l, fun hil => ?_⟩
                rw [List.length_map] at hlen
                omega
        · cases hs
      · cases hs
    · cases hs
  · cases h : shOf P t <;> simp [h] at hs
theorem open_phs : ∀ {ts : List TypeId} {hs : List Ph} {vs : List Value} {ds : List (DataW H)} {p : List MemPlace}, phsOf P ts = some hs → (∀ (j : Nat) t v, ts[j]? = some t → vs[j]? = some v → Value.okWide P W .any base t v) →
    DataW.TrodAll enc P W 0 (fun _ => true) true ts vs ds p → ∃ (ns : List Int) (ss : List Value), vs = phVals hs ns ss ∧ phFits hs ns ∧ slFits W hs ss ∧ ns.length = phSize hs
  | [], hs, vs, ds, p, h, _, hA => by
    obtain rfl := Option.some.inj h
    cases vs with
    | nil => exact ⟨[], [], rfl, trivial, trivial, rfl⟩
    | cons v vs => cases ds <;> exact hA.elim
  | t :: ts, hs, [], ds, p, _, _, hA => by cases ds <;> exact hA.elim
  | t :: ts, hs, v :: vs, ds, p, h, hval, hA => by
    unfold phsOf at h
    split at h
    · rename_i h1 hs1 hh hhs
      obtain rfl := Option.some.inj h
      cases ds with
      | nil => exact hA.elim
      | cons d ds =>
        obtain ⟨p0, q0, a0, a1, _⟩ := hA
        obtain ⟨ms, ss, rfl, m2, m3, m4⟩ := open_phs hhs (fun j t v ht hv => hval (j + 1) t v (by simpa using ht) (by simpa using hv)) a1
        cases h1 with
        | sh h1 =>
          have hh' : shOf P t = some h1 := by
            unfold phOf at hh
            split at hh
            · split at hh
              · split at hh
                · split at hh <;> cases hh
                · cases hh
              · cases hh
            · cases hq : shOf P t with
              | none => simp [hq] at hh
              | some q => simp only [hq, Option.map_some, Option.some.injEq, Ph.sh.injEq] at hh; rw [hh]
          obtain ⟨ns, n1, rfl, n3⟩ := open_sh hh' (hval 0 t v rfl rfl) a0
          refine ⟨ns ++ ms, ss, ?_, ?_, m3, by simp [phSize, n1, m4]⟩
          · simp only [phVals]
            rw [(Sh.val_append n1).1, ← n1, List.drop_left]
          · simp only [phFits]
            rw [(Sh.val_append n1).2, ← n1, List.drop_left]
            exact ⟨n3, m2⟩
        | sl ks => exact ⟨ms, v :: ss, rfl, m2, ⟨open_sl hh (hval 0 t v rfl rfl) a0, m3⟩, m4⟩
    · cases h
/-- The walk of a law's row, out of its calls at plain data and slices of such. -/
theorem pays_phs {X : World → Prop} {F : FuncId} {fn : Func} {hs : List Ph} (hsh : phsOf P fn.params.toList = some hs)
    (hlaw : ∀ (ns : List Int) (ss : List Value), phFits hs ns → ns.length = phSize hs → ∀ W, slFits W hs ss → X W → Calls P F (phVals hs ns ss).toArray W fun e W' => e = .returned (.bool true) ∧ Below W.heap.size W W')
    (W : World) (base : Nat) (args : Array Value) (ds : List (DataW H)) (p : List MemPlace)
    (hval : ∀ (j : Nat) t v, fn.params[j]? = some t → args[j]? = some v → Value.okWide P W .any base t v) (hA : DataW.TrodAll enc P W 0 (fun _ => true) true fn.params.toList args.toList ds p) (_ : ∀ x ∈ p, x.block < W.heap.size) (hX : X W) : Pays P F args W := by
  obtain ⟨ns, ss, h1, h2, h3, h4⟩ := open_phs hsh (fun j t v ht hv => hval j t v (by simpa using ht) (by simpa using hv)) hA
  have : args = (phVals hs ns ss).toArray := by rw [← h1]
  rw [this]
  exact hlaw ns ss h2 h4 W h3 hX
end

/-! ### The heap with the input slice -/
section
variable {P : Program} {ρ : Env} {w0 : World} {M : Nat → Prop} {β : Bm} {w : World} {hp : Hp}
/-- A law all of whose ways end with true, from a known heap. -/
theorem pays_heap {gl : Gl} {okF : FuncId → Bool} {sums : Sums} {keep : FuncId → Nat → List Nat} {fuel n : Nat} (hm : P.follows .mixedOrders = true) (hok : ∀ f, okF f = true → ∀ as w, (callFunc f as).run P w = .ok (.enter f as) w)
    {f : FuncId} {args : List SV} {fs0 : Fs} (hh : Heap ρ w (fun _ => False) β hp w) (hg : GlOk gl β hp.n) (hfs : FsOk ρ fs0) (hsum : SumsOk P ρ w (fun _ => False) sums) (hargs : SV.oks ρ hp.n args) (h : (callF P gl okF sums keep fuel n f args hp fs0).holds ρ fun o => isTrueF o = true) :
    Calls P f (SV.evs ρ β args).toArray w fun e w' => e = .returned (.bool true) ∧ Below w.heap.size w w' := by
  refine ((callF_run (gl := gl) hm hok hsum n f args hp fs0 β w (fun v w' => v = .bool true ∧ Below w.heap.size w w') hh hfs hargs hg
    (T.holds_mono (fun o ho β' w' _ _ _ hh hf _ => ?_) h)).2).mono fun e w' ⟨v, he, hv, hb⟩ => ⟨by rw [he, hv], hb⟩
  exact ⟨isTrueF_spec hf ho β', hh.kept.to_below⟩
def envA (F : Nat → Nat → List Int → Int) (ns : List Int) (A : Nat → Nat → Int → Int) : Env := ⟨fun i => ns.getD i 0, A, F⟩
/-- The arguments of a law with one slice: variable m is its length, m + 1 its capacity, box k its array; or the slice's value is given. -/
def phArgs (k m : Nat) (raw : Option SV) : List Ph → Nat → List SV
  | [], _ => []
  | .sh h :: l, i => varSh h i :: phArgs k m raw l (i + h.size)
  | .sl ks :: l, i => raw.getD (.inp k ks.length 0 (.var m) (.var m) (.var (m + 1))) :: phArgs k m raw l i
def phKs : List Ph → List Lk
  | [] => []
  | .sh _ :: l => phKs l
  | .sl ks :: _ => ks
/-- Just one slice. -/
def phOne : List Ph → Bool
  | [] => false
  | .sh _ :: l => phOne l
  | .sl ks :: l => !ks.isEmpty && l.all fun p => match p with
    | .sh _ => true
    | .sl _ => false
def phFacts : List Ph → Nat → Fs
  | [], _ => []
  | .sh h :: l, i => shFacts h i ++ phFacts l (i + h.size)
  | .sl _ :: l, i => phFacts l i
def lenFacts (m : Nat) : Fs := [(.bin .lt .i64 (.lit 0) (.var m), true), (.bin .zrng .i64 (.var m) (.lit 0), true), (.bin .zrng .i64 (.var (m + 1)) (.lit 0), true), (.bin .lt .i64 (.var (m + 1)) (.var m), false)]
def arrHp (tabs : Tabs) (ks : List Lk) (m : Nat) : Hp := (tabHp tabs).push ⟨false, .arr 0 ks (.var m)⟩
def noHp (tabs : Tabs) : Hp := (tabHp tabs).push ⟨false, .gone⟩
section
variable {F : Nat → Nat → List Int → Int} {ns : List Int} {A : Nat → Nat → Int → Int} {β : Bm} {n : Nat}
theorem varLk_specA {l : Lk} {i : Nat} (h : l.fits (ns.getD i 0)) : (varLk l i).ev (envA F ns A) β = l.val (ns.getD i 0) ∧ (varLk l i).ok (envA F ns A) n := by
  cases l
  · exact ⟨rfl, h⟩
  · exact ⟨rfl, trivial⟩
theorem varLks_specA : ∀ {ls : List Lk} {i : Nat}, SX.fits ls (ns.drop i) → SV.evs (envA F ns A) β (varLks ls i) = vals ls (ns.drop i) ∧ SV.oks (envA F ns A) n (varLks ls i)
  | [], _, _ => ⟨rfl, trivial⟩
  | l :: ls, i, h => by
    simp only [SX.fits, headD_drop, List.tail_drop] at h
    obtain ⟨a1, a2⟩ := varLk_specA (F := F) (A := A) (β := β) (n := n) h.1
    obtain ⟨b1, b2⟩ := varLks_specA (ls := ls) (i := i + 1) h.2
    refine ⟨?_, ⟨a2, b2⟩⟩
    simp only [varLks, SV.evs, vals, a1, b1, headD_drop, List.tail_drop]
theorem varSh_specA {h : Sh} {i : Nat} (hf : h.fits (ns.drop i)) : (varSh h i).ev (envA F ns A) β = h.val (ns.drop i) ∧ (varSh h i).ok (envA F ns A) n := by
  cases h with
  | one l =>
    simp only [Sh.fits, headD_drop] at hf
    simpa only [varSh, Sh.val, headD_drop] using varLk_specA (F := F) (A := A) (β := β) (n := n) hf
  | agg ls =>
    obtain ⟨a1, a2⟩ := varLks_specA (F := F) (A := A) (β := β) (n := n) (i := i) hf
    exact ⟨by simp only [varSh, SV.ev, Sh.val, a1], a2⟩
/-- The slice's value stands for 's'; there is one slice. -/
theorem phArgs_spec {k m : Nat} {raw : Option SV} {S : Value} {ks : List Lk} (hS : (raw.getD (.inp k ks.length 0 (.var m) (.var m) (.var (m + 1)))).ev (envA F ns A) β = S) (hk : (raw.getD (.inp k ks.length 0 (.var m) (.var m) (.var (m + 1)))).ok (envA F ns A) n) :
    ∀ {hs : List Ph} {i : Nat} {ss : List Value}, phFits hs (ns.drop i) → (∀ p ∈ hs, ∀ ks', p = .sl ks' → ks' = ks) → (∀ j, j < (hs.filter fun p => match p with | .sh _ => false | .sl _ => true).length → ss[j]? = some S) →
      SV.evs (envA F ns A) β (phArgs k m raw hs i) = phVals hs (ns.drop i) ss ∧ SV.oks (envA F ns A) n (phArgs k m raw hs i)
  | [], _, _, _, _, _ => ⟨rfl, trivial⟩
  | .sh h :: l, i, ss, hf, hks, hss => by
    simp only [phFits, List.drop_drop] at hf
    obtain ⟨a1, a2⟩ := varSh_specA (F := F) (A := A) (β := β) (n := n) hf.1
    obtain ⟨b1, b2⟩ := phArgs_spec hS hk (hs := l) (i := i + h.size) (ss := ss) hf.2 (fun p hp => hks p (List.mem_cons_of_mem _ hp)) (fun j hj => hss j (by simpa using hj))
    refine ⟨?_, a2, b2⟩
    simp only [phArgs, SV.evs, phVals, a1, b1, List.drop_drop]
  | .sl ks' :: l, i, ss, hf, hks, hss => by
    obtain rfl := hks _ (List.mem_cons_self ..) ks' rfl
    have h0 := hss 0 (by simp)
    cases ss with
    | nil => simp at h0
    | cons s ss =>
      simp only [List.getElem?_cons_zero, Option.some.injEq] at h0
      subst h0
      obtain ⟨b1, b2⟩ := phArgs_spec hS hk (hs := l) (i := i) (ss := ss) hf (fun p hp => hks p (List.mem_cons_of_mem _ hp)) (fun j hj => by
        have := hss (j + 1) (by simp only [List.filter_cons, if_true, List.length_cons]; omega)
        simpa using this)
      refine ⟨?_, hk, b2⟩
      simp only [phArgs, SV.evs, phVals, hS, b1, List.headD_cons, List.tail_cons]
theorem shFacts_okA {h : Sh} {i : Nat} (hf : h.fits (ns.drop i)) : FsOk (envA F ns A) (shFacts h i) := by
  have hl : ∀ {l : Lk} {i : Nat}, l.fits (ns.getD i 0) → FsOk (envA F ns A) (lkFacts l i) := fun {l i} h p hp => by
    cases l with
    | bool => cases hp
    | int k =>
      obtain rfl : p = (.bin .zrng k (.var i) (.lit 0), true) := by simpa [lkFacts] using hp
      have := (wf_iff k _).1 h
      show (if k.min ≤ ns.getD i 0 ∧ ns.getD i 0 ≤ k.max then (1 : Int) else 0) ≠ 0 ↔ true = true
      rw [if_pos this]
      simp
  have hls : ∀ {ls : List Lk} {i : Nat}, SX.fits ls (ns.drop i) → FsOk (envA F ns A) (lksFacts ls i) := fun {ls} => by
    induction ls with
    | nil => exact fun _ p hp => by cases hp
    | cons l ls ih =>
      intro i h
      simp only [SX.fits, headD_drop, List.tail_drop] at h
      exact fsOk_app (hl h.1) (ih h.2)
  cases h with
  | one l =>
    simp only [Sh.fits, headD_drop] at hf
    exact hl hf
  | agg ls => exact hls hf
theorem phFacts_ok : ∀ {hs : List Ph} {i : Nat}, phFits hs (ns.drop i) → FsOk (envA F ns A) (phFacts hs i)
  | [], _, _ => fun p hp => by cases hp
  | .sh h :: l, i, hf => by
    simp only [phFits, List.drop_drop] at hf
    exact fsOk_app (shFacts_okA hf.1) (phFacts_ok hf.2)
  | .sl _ :: l, i, hf => phFacts_ok (hs := l) hf
theorem ph_append : ∀ {hs : List Ph} {ns ms : List Int} {ss : List Value}, ns.length = phSize hs → phVals hs (ns ++ ms) ss = phVals hs ns ss ∧ (phFits hs (ns ++ ms) ↔ phFits hs ns)
  | [], _, _, _, _ => ⟨rfl, Iff.rfl⟩
  | .sh h :: l, ns, ms, ss, hl => by
    simp only [phSize] at hl
    have h1 : (ns.take h.size).length = h.size := by simp; omega
    have h2 : (ns.drop h.size).length = phSize l := by simp; omega
    have e1 : ns ++ ms = ns.take h.size ++ (ns.drop h.size ++ ms) := by rw [← List.append_assoc, List.take_append_drop]
    have e2 : (ns ++ ms).drop h.size = ns.drop h.size ++ ms := by rw [List.drop_append_of_le_length (by omega)]
    obtain ⟨a1, a2⟩ := Sh.val_append (h := h) (ms := ns.drop h.size ++ ms) h1
    obtain ⟨b1, b2⟩ := Sh.val_append (h := h) (ms := ns.drop h.size) h1
    rw [List.take_append_drop] at b1 b2
    obtain ⟨c1, c2⟩ := ph_append (hs := l) (ms := ms) (ss := ss) h2
    simp only [phVals, phFits, e2, c1, c2]
    rw [e1, a1, b1, a2, b2]
    exact ⟨rfl, Iff.rfl⟩
  | .sl _ :: l, ns, ms, ss, hl => by
    obtain ⟨c1, c2⟩ := ph_append (hs := l) (ns := ns) (ms := ms) (ss := ss.tail) hl
    simp only [phVals, phFits, c1, c2]
    exact ⟨trivial, trivial⟩
theorem phOne_spec : ∀ {hs : List Ph} {w : World} {ss : List Value}, phOne hs = true → slFits w hs ss → 0 < (phKs hs).length ∧ (∀ p ∈ hs, ∀ ks', p = .sl ks' → ks' = phKs hs) ∧
    ∃ S, InSl w (phKs hs) S ∧ ∀ j, j < (hs.filter fun p => match p with | .sh _ => false | .sl _ => true).length → ss[j]? = some S
  | [], _, _, h, _ => by cases h
  | .sh h :: l, w, ss, h1, hs => by
    obtain ⟨a1, a2, S, a3, a4⟩ := phOne_spec (hs := l) h1 hs
    refine ⟨a1, fun p hp ks' e => ?_, S, a3, fun j hj => a4 j (by simpa using hj)⟩
    rcases List.mem_cons.1 hp with rfl | hp
    · cases e
    · exact a2 p hp ks' e
  | .sl ks :: l, w, ss, h1, hs => by
    simp only [phOne, Bool.and_eq_true, Bool.not_eq_true', List.all_eq_true] at h1
    obtain ⟨h0, h1⟩ := h1
    obtain ⟨hS, _⟩ := hs
    have hl : ∀ p ∈ l, ∀ ks', p ≠ .sl ks' := fun p hp ks' e => by
      have := h1 p hp
      subst e
      cases this
    refine ⟨by cases ks with | nil => cases h0 | cons a l => simp [phKs], fun p hp ks' e => ?_, ss.headD undef, hS, fun j hj => ?_⟩
    · rcases List.mem_cons.1 hp with rfl | hp
      · cases e; rfl
      · exact (hl p hp ks' e).elim
    · have hf : l.filter (fun p => match p with | .sh _ => false | .sl _ => true) = [] := by
        rw [List.filter_eq_nil_iff]
        intro p hp
        cases p with
        | sh h => simp
        | sl ks' => exact (hl _ hp ks' rfl).elim
      simp only [List.filter_cons, if_true, hf, List.length_cons, List.length_nil] at hj
      obtain rfl : j = 0 := by omega
      cases ss with
      | nil =>
        exfalso
        simp only [List.headD_nil, InSl] at hS
        rcases hS with hS | ⟨_, _, _, _, _, hS, _⟩ <;> cases hS
      | cons s ss => rfl
end
end
section
variable {P : Program} {F : Nat → Nat → List Int → Int}
def rawNil : SV := .raw (.slice none 0 0)
def inpNo (k z m : Nat) : SV := .inp k z 0 (.lit 0) (.lit 0) (.var (m + 1))
theorem wrap_fit {k : IntKind} {x : Int} (h : k.min ≤ x ∧ x ≤ k.max) : k.wrap x = x := by
  cases k <;> simp [IntKind.wrap, IntKind.min, IntKind.max, IntKind.bits, IntKind.signed] at * <;> omega
/-- The array that is read: by field and kind. -/
def arrOf (ks : List Lk) (c : Nat → Nat → Int) : Nat → Nat → Int → Int := fun _ cd i => match ks[cd / 8]? with
  | some .bool => if c (cd / 8) i.toNat ≠ 0 then 1 else 0
  | _ => c (cd / 8) i.toNat
theorem arrOf_spec {ns : List Int} {ks : List Lk} {c : Nat → Nat → Int} {i f : Nat} {l : Lk} (hl : ks[f]? = some l) (hf : l.fits (c f i)) :
    l.val ((envA F ns (arrOf ks c)).rd 0 (l.code f) i) = l.val (c f i) ∧ l.fits ((envA F ns (arrOf ks c)).rd 0 (l.code f) i) := by
  cases l with
  | int k =>
    have h8 : (8 * f + kTag k) / 8 = f := by cases k <;> simp only [kTag] <;> omega
    have hw : k.wrap (c f i) = c f i := wrap_fit ((wf_iff k _).1 hf)
    have : (envA F ns (arrOf ks c)).rd 0 ((Lk.int k).code f) i = c f i := by
      show (kOf (8 * f + kTag k)).wrap (arrOf ks c 0 (8 * f + kTag k) i) = _
      rw [kOf_code]
      simp only [arrOf, h8, hl, Int.toNat_natCast, hw]
    rw [this]
    exact ⟨rfl, hf⟩
  | bool =>
    have h8 : (8 * f + 3) / 8 = f := by omega
    refine ⟨?_, trivial⟩
    have : (envA F ns (arrOf ks c)).rd 0 (Lk.bool.code f) i = if c f i ≠ 0 then 1 else 0 := by
      show (kOf (8 * f + 3)).wrap (arrOf ks c 0 (8 * f + 3) i) = _
      have hk : kOf (8 * f + 3) = .i64 := kOf_code f .i64
      rw [hk]
      simp only [arrOf, h8, hl, Int.toNat_natCast]
      split <;> decide
    rw [this]
    simp only [Lk.val]
    split <;> simp_all
/-- Cases, test by test. -/
inductive CT where
  | leaf | split (e : E) (t f : CT)
def CT.all : CT → (Fs → Prop) → Prop
  | .leaf, k => k []
  | .split e a b, k => (a.all fun p => k ((e, true) :: p)) ∧ (b.all fun p => k ((e, false) :: p))
theorem CT.mk0 {k : Fs → Prop} (h : k []) : CT.leaf.all k := h
theorem CT.mk2 {e : E} {a b : CT} {k : Fs → Prop} (h1 : a.all fun p => k ((e, true) :: p)) (h2 : b.all fun p => k ((e, false) :: p)) : (CT.split e a b).all k := ⟨h1, h2⟩
theorem CT.some (ρ : Env) : ∀ {c : CT} {k : Fs → Prop}, c.all k → ∃ p, FsOk ρ p ∧ k p
  | .leaf, k, h => ⟨[], fun _ h => (by cases h), h⟩
  | .split e a b, k, h => by
    by_cases he : e.ev ρ = 0
    · obtain ⟨p, h1, h2⟩ := CT.some ρ h.2
      refine ⟨(e, false) :: p, fun q hq => ?_, h2⟩
      rcases List.mem_cons.1 hq with rfl | hq
      · simp [he]
      · exact h1 q hq
    · obtain ⟨p, h1, h2⟩ := CT.some ρ h.1
      refine ⟨(e, true) :: p, fun q hq => ?_, h2⟩
      rcases List.mem_cons.1 hq with rfl | hq
      · simp [he]
      · exact h1 q hq
/-- A law with one slice, all of whose ways end with true: elements, none, and a nil slice. -/
theorem pays_slice {okF : FuncId → Bool} {sums : Sums} {keep : FuncId → Nat → List Nat} {fuel n : Nat} (tabs : Tabs) (hd : (tabs.map (·.1)).Nodup) (hm : P.follows .mixedOrders = true) (hok : ∀ f, okF f = true → ∀ as w, (callFunc f as).run P w = .ok (.enter f as) w)
    {f : FuncId} {hs : List Ph} (h1 : phOne hs = true) {w : World} (ht : TabsIn tabs w) (hsum : ∀ ns A, SumsOk P (envA F ns A) w (fun _ => False) sums)
    (ct : CT) (t1 : ct.all fun p => (callF P (tabGl tabs 0) okF sums keep fuel n f (phArgs tabs.length (phSize hs) none hs 0) (arrHp tabs (phKs hs) (phSize hs)) (p ++ (lenFacts (phSize hs) ++ phFacts hs 0))).all isTrueF = true)
    (t2 : (callF P (tabGl tabs 0) okF sums keep fuel n f (phArgs tabs.length (phSize hs) (some (inpNo tabs.length (phKs hs).length (phSize hs))) hs 0) (noHp tabs) (phFacts hs 0)).all isTrueF = true)
    (t3 : (callF P (tabGl tabs 0) okF sums keep fuel n f (phArgs tabs.length (phSize hs) (some rawNil) hs 0) (noHp tabs) (phFacts hs 0)).all isTrueF = true)
    (ns : List Int) (ss : List Value) (hns : phFits hs ns) (hlen : ns.length = phSize hs) (hss : slFits w hs ss) :
    Calls P f (phVals hs ns ss).toArray w fun e w' => e = .returned (.bool true) ∧ Below w.heap.size w w' := by
  obtain ⟨hz, hks, S, hS, hget⟩ := phOne_spec h1 hss
  have hT := tab_heap hd ht (fun _ => False)
  have hgl : ∀ {bv : Nat × Nat}, GlOk (tabGl tabs 0) (upd (tabB tabs) tabs.length bv) (tabs.length + 1) := fun {bv} => tab_gl (fun j p hj => by
      have hjl := (List.getElem?_eq_some_iff.1 hj).1
      have : upd (tabB tabs) tabs.length bv (0 + j) = tabB tabs j := by rw [Nat.zero_add]; exact upd_ext _ _ _ j hjl
      rw [this]; simp [tabB, hj]) (by omega)
  have go : ∀ (len cap : Int), phVals hs (ns ++ [len, cap]) ss = phVals hs ns ss ∧ phFits hs (ns ++ [len, cap]) := fun len cap => by
    obtain ⟨a, b⟩ := ph_append (hs := hs) (ms := [len, cap]) (ss := ss) hlen
    exact ⟨a, b.2 hns⟩
  have hv1 : ∀ (len cap : Int), (ns ++ [len, cap]).getD (phSize hs) 0 = len ∧ (ns ++ [len, cap]).getD (phSize hs + 1) 0 = cap := fun len cap => by
    rw [← hlen]
    simp
  have no : ∀ (raw : SV) (bv : Nat × Nat) (len cap : Int) (A : Nat → Nat → Int → Int), raw.ev (envA F (ns ++ [len, cap]) A) (upd (tabB tabs) tabs.length bv) = S → raw.ok (envA F (ns ++ [len, cap]) A) (tabs.length + 1) →
      (callF P (tabGl tabs 0) okF sums keep fuel n f (phArgs tabs.length (phSize hs) (some raw) hs 0) (noHp tabs) (phFacts hs 0)).all isTrueF = true →
      Calls P f (phVals hs ns ss).toArray w fun e w' => e = .returned (.bool true) ∧ Below w.heap.size w w' := fun raw bv len cap A hev hrk tr => by
    obtain ⟨g1, g2⟩ := go len cap
    obtain ⟨p1, p2⟩ := phArgs_spec (F := F) (A := A) (n := tabs.length + 1) (k := tabs.length) (m := phSize hs) (raw := some raw) (ks := phKs hs) hev hrk (hs := hs) (i := 0) (ss := ss) g2 hks hget
    rw [List.drop_zero, g1] at p1
    rw [← p1]
    exact pays_heap (hp := noHp tabs) hm hok ((hT (envA F (ns ++ [len, cap]) A)).pushRo (b := .gone) rfl trivial trivial (fun h => by cases h)) hgl (phFacts_ok g2) (hsum _ _) p2 (T.all_holds tr)
  rcases hS with hS | ⟨b, off, len, cap, c, hS, hle, hmax, hb, hcell⟩
  · exact no rawNil (0, 0) 0 0 (fun _ _ _ => 0) hS.symm trivial t3
  · by_cases h0 : len = 0
    · subst h0
      obtain ⟨v1, v2⟩ := hv1 0 cap
      refine no (inpNo tabs.length (phKs hs).length (phSize hs)) (b, off) 0 cap (fun _ _ _ => 0) ?_ ⟨Nat.lt_succ_self _, (show (Lit.int .i64 0).wf = true by decide), Int.le_refl _, ?_, by simp [E.ev]⟩ t2
      · rw [hS]
        simp only [inpNo, SV.ev, upd_same, E.ev, envA, v2]
        simp
      · simp only [E.ev, envA, v2]
        exact Int.natCast_nonneg _
    · obtain ⟨g1, g2⟩ := go len cap
      obtain ⟨v1, v2⟩ := hv1 len cap
      have hmx : (cap : Int) ≤ 9223372036854775807 := by unfold maxLen at hmax; omega
      have i1 : IntKind.i64.min = -9223372036854775808 := by decide
      have i2 : IntKind.i64.max = 9223372036854775807 := by decide
      have hr : (SV.inp tabs.length (phKs hs).length 0 (.var (phSize hs)) (.var (phSize hs)) (.var (phSize hs + 1))).ok (envA F (ns ++ [(len : Int), (cap : Int)]) (arrOf (phKs hs) c)) (tabs.length + 1) := by
        refine ⟨Nat.lt_succ_self _, ?_, ?_, ?_, ?_⟩ <;> simp only [E.ev, envA, v1, v2]
        · exact (wf_iff .i64 _).2 (by rw [i1, i2]; omega)
        · exact Int.natCast_nonneg _
        · omega
        · omega
      obtain ⟨p1, p2⟩ := phArgs_spec (F := F) (A := arrOf (phKs hs) c) (β := upd (tabB tabs) tabs.length (b, off)) (n := tabs.length + 1) (k := tabs.length) (m := phSize hs) (raw := none) (ks := phKs hs) (S := S) (by
        rw [hS]
        simp only [Option.getD_none, SV.ev, upd_same, E.ev, envA, v1, v2]
        simp) hr (hs := hs) (i := 0) (ss := ss) g2 hks hget
      rw [List.drop_zero, g1] at p1
      rw [← p1]
      obtain ⟨pf, pk, t1⟩ := CT.some (envA F (ns ++ [(len : Int), (cap : Int)]) (arrOf (phKs hs) c)) t1
      refine pays_heap (hp := arrHp tabs (phKs hs) (phSize hs)) hm hok ((hT _).pushRo (b := .arr 0 (phKs hs) (.var (phSize hs))) (bv := (b, off)) rfl trivial ?_ (fun _ => ⟨hb (by omega), fun h => h⟩)) hgl ?_ (hsum _ _) p2 (T.all_holds t1)
      · intro i f' l hi hl
        simp only [E.ev, envA, v1] at hi
        have hi' : i < len := by simpa using hi
        obtain ⟨q1, q2⟩ := arrOf_spec (F := F) (ns := ns ++ [(len : Int), (cap : Int)]) hl (hcell i f' l hl).1
        exact ⟨by rw [q1]; exact (hcell i f' l hl).2 hi', q2⟩
      · refine fsOk_app pk (fsOk_app ?_ (phFacts_ok g2))
        intro p hp
        simp only [lenFacts, List.mem_cons, List.not_mem_nil, or_false] at hp
        rcases hp with rfl | rfl | rfl | rfl <;> simp only [E.ev, BOp.ev, envA, v1, v2, i1, i2]
        · have : (0 : Int) < len := by omega
          rw [if_pos this]; simp
        · rw [if_pos (by omega)]; simp
        · rw [if_pos (by omega)]; simp
        · have : ¬ (cap : Int) < len := by omega
          rw [if_neg this]; simp
/-- A law of plain data, all of whose ways end with true, case by case. -/
theorem pays_cases {okF : FuncId → Bool} {sums : Sums} {keep : FuncId → Nat → List Nat} {fuel n : Nat} (tabs : Tabs) (hd : (tabs.map (·.1)).Nodup) (hm : P.follows .mixedOrders = true) (hok : ∀ f, okF f = true → ∀ as w, (callFunc f as).run P w = .ok (.enter f as) w)
    {f : FuncId} {hs : List Sh} {w : World} (ht : TabsIn tabs w) (hsum : ∀ ns, SumsOk P (envOf F ns) w (fun _ => False) sums) (ct : CT)
    (t1 : ct.all fun p => (callF P (tabGl tabs 0) okF sums keep fuel n f (varShs hs 0) (tabHp tabs) (p ++ varFacts hs 0)).all isTrueF = true)
    (ns : List Int) (hns : shFits hs ns) : Calls P f (shVals hs ns).toArray w fun e w' => e = .returned (.bool true) ∧ Below w.heap.size w w' := by
  obtain ⟨e1, e2, e3⟩ := varShs_spec (F := F) (β := β0) (n := 0) (hs := hs) (i := 0) hns
  rw [List.drop_zero] at e1
  rw [← e1]
  obtain ⟨pf, pk, t1⟩ := CT.some (envOf F ns) t1
  exact pays_facts tabs hd ht hm hok (fsOk_app pk (varFacts_ok (hs := hs) (i := 0) hns)) (hsum ns) e2 e3 (T.all_holds t1)
end
end Go.Proofs.YtbjficjcgpgcbaaDoor.SX
namespace Go.Proofs.YtbjficjcgpgcbaaDoor.SX
open Go Go.RowKit
set_option linter.unusedVariables false
set_option linter.unusedSimpArgs false

/-! ### Expressions without a name -/
mutual
def E.free (m : Nat) : E → Bool
  | .lit _ => true
  | .var _ => true
  | .rd _ _ i => E.free m i
  | .bin _ _ a b => E.free m a && E.free m b
  | .app f _ l => f != m && E.frees m l
def E.frees (m : Nat) : List E → Bool
  | [] => true
  | e :: l => E.free m e && E.frees m l
end
/-- Two meanings of names that differ at most at m. -/
def But (m : Nat) (F G : Nat → Nat → List Int → Int) : Prop := ∀ f, f ≠ m → F f = G f
mutual
theorem E.ev_free {m : Nat} {F G : Nat → Nat → List Int → Int} (h : But m F G) (ns : List Int) : ∀ e : E, e.free m = true → e.ev (envOf F ns) = e.ev (envOf G ns)
  | .lit _, _ => rfl
  | .var _, _ => rfl
  | .rd a f i, hf => by simp only [E.ev]; rw [E.ev_free h ns i hf]; rfl
  | .bin o k a b, hf => by
    simp only [E.free, Bool.and_eq_true] at hf
    simp only [E.ev]; rw [E.ev_free h ns a hf.1, E.ev_free h ns b hf.2]
  | .app f j l, hf => by
    simp only [E.free, Bool.and_eq_true, bne_iff_ne, ne_eq] at hf
    simp only [E.ev]
    rw [E.evs_free h ns l hf.2]
    show F f j _ = G f j _
    rw [h f hf.1]
theorem E.evs_free {m : Nat} {F G : Nat → Nat → List Int → Int} (h : But m F G) (ns : List Int) : ∀ l : List E, E.frees m l = true → E.evs (envOf F ns) l = E.evs (envOf G ns) l
  | [], _ => rfl
  | e :: l, hf => by
    simp only [E.frees, Bool.and_eq_true] at hf
    simp only [E.evs]; rw [E.ev_free h ns e hf.1, E.evs_free h ns l hf.2]
end
/-! ### The way that is taken -/
def T.pick {α : Type} (ρ : Env) : T α → Option α
  | .ok a => some a
  | .br c t e => if c.ev ρ ≠ 0 then t.pick ρ else e.pick ρ
  | .both _ _ => none
  | .bad _ => none
def unpackS (rs : List Sh) (v : SV) : List SV :=
  match rs, v with
  | [_], v => [v]
  | _, .tuple l => l
  | _, _ => []
def leafE (rs : List Sh) (o : Out) : Option (List E) := if o.v.flat = true ∧ rs.isEmpty = false then shTakes rs (unpackS rs o.v) else none
/-- A tree that names may stand for: no name m in it, no orders, flat ends. -/
def T.good (m : Nat) (rs : List Sh) : T Out → Bool
  | .ok o => match leafE rs o with
    | some es => E.frees m es
    | none => false
  | .br c t e => c.free m && t.good m rs && e.good m rs
  | .both _ _ => false
  | .bad _ => false
theorem T.good_pick {m : Nat} {rs : List Sh} {F G : Nat → Nat → List Int → Int} (h : But m F G) (ns : List Int) : ∀ {t : T Out}, t.good m rs = true →
    ∃ o es, t.pick (envOf G ns) = some o ∧ leafE rs o = some es ∧ E.evs (envOf F ns) es = E.evs (envOf G ns) es ∧ ∀ Q : Out → Prop, Q o → t.holds (envOf F ns) Q
  | .ok o, hg => by
    unfold T.good at hg
    split at hg
    · rename_i es he
      exact ⟨o, es, rfl, he, E.evs_free h ns es hg, fun Q hQ => hQ⟩
    · cases hg
  | .br c t e, hg => by
    simp only [T.good, Bool.and_eq_true] at hg
    have hc := E.ev_free h ns c hg.1.1
    obtain ⟨o, es, a1, a2, a3, a4⟩ := T.good_pick h ns hg.1.2
    obtain ⟨o', es', b1, b2, b3, b4⟩ := T.good_pick h ns hg.2
    by_cases h0 : c.ev (envOf G ns) = 0
    · refine ⟨o', es', by simp only [T.pick]; rw [if_neg (by simpa using h0)]; exact b1, b2, b3, fun Q hQ => ⟨fun h1 => absurd (hc.trans h0) h1, fun _ => b4 Q hQ⟩⟩
    · refine ⟨o, es, by simp only [T.pick]; rw [if_pos h0]; exact a1, a2, a3, fun Q hQ => ⟨fun _ => a4 Q hQ, fun h1 => absurd (hc.symm.trans h1) h0⟩⟩
  | .both _ _, hg => by cases hg
  | .bad _, hg => by cases hg
def lksWrap : List Lk → List Int → List Int
  | [], _ => []
  | l :: ls, ns => (match l with
    | .int k => k.wrap (ns.headD 0)
    | .bool => ns.headD 0) :: lksWrap ls ns.tail
def shLks : List Sh → List Lk
  | [] => []
  | .one l :: hs => l :: shLks hs
  | .agg ls :: hs => ls ++ shLks hs
/-- What a name stands for, by the tree of its function. -/
def autoF (G : Nat → Nat → List Int → Int) (rs : List Sh) (t : T Out) (j : Nat) (ns : List Int) : Int :=
  match t.pick (envOf G ns) with
  | some o => match leafE rs o with
    | some es => (lksWrap (shLks rs) (E.evs (envOf G ns) es)).getD j 0
    | none => 0
  | none => 0
theorem length_lksWrap : ∀ (ls : List Lk) (ns : List Int), (lksWrap ls ns).length = ls.length
  | [], _ => rfl
  | l :: ls, ns => by simp [lksWrap, length_lksWrap ls]
theorem fits_wrap : ∀ (ls : List Lk) (ns : List Int), SX.fits ls (lksWrap ls ns)
  | [], _ => trivial
  | .int k :: ls, ns => ⟨wf_wrap k _, fits_wrap ls _⟩
  | .bool :: ls, ns => ⟨trivial, fits_wrap ls _⟩
theorem wrap_fits : ∀ (ls : List Lk) (ns : List Int), ns.length = ls.length → SX.fits ls ns → lksWrap ls ns = ns
  | [], [], _, _ => rfl
  | [], _ :: _, h, _ => by cases h
  | _ :: _, [], h, _ => by cases h
  | .int k :: ls, n :: ns, h, hf => by
    have h1 : k.wrap n = n := wrap_fit ((wf_iff k n).1 hf.1)
    simp only [lksWrap, List.headD_cons, List.tail_cons, h1]
    rw [wrap_fits ls ns (by simpa using h) hf.2]
  | .bool :: ls, n :: ns, h, hf => by
    simp only [lksWrap, List.headD_cons, List.tail_cons]
    rw [wrap_fits ls ns (by simpa using h) hf.2]
theorem fits_app : ∀ (ls ms : List Lk) (ns : List Int), SX.fits (ls ++ ms) ns ↔ SX.fits ls ns ∧ SX.fits ms (ns.drop ls.length)
  | [], ms, ns => by simp [SX.fits]
  | l :: ls, ms, ns => by
    have := fits_app ls ms ns.tail
    have e : ns.tail.drop ls.length = ns.drop (ls.length + 1) := by cases ns <;> simp
    simp only [List.cons_append, SX.fits, this, e, List.length_cons]
    exact and_assoc.symm
theorem shFits_lks : ∀ (hs : List Sh) (ns : List Int), shFits hs ns ↔ SX.fits (shLks hs) ns
  | [], _ => Iff.rfl
  | .one l :: hs, ns => by
    have e : ns.drop 1 = ns.tail := by cases ns <;> simp
    simp only [shFits, Sh.fits, Sh.size, shLks, SX.fits, shFits_lks hs, e]
  | .agg ls :: hs, ns => by
    simp only [shFits, Sh.fits, Sh.size, shLks, shFits_lks hs, fits_app]
theorem length_shLks : ∀ hs : List Sh, (shLks hs).length = shSize hs
  | [] => rfl
  | .one l :: hs => by simp [shLks, shSize, Sh.size, length_shLks hs, Nat.add_comm]
  | .agg ls :: hs => by simp [shLks, shSize, Sh.size, length_shLks hs]
theorem shTakes_len : ∀ {hs : List Sh} {ss : List SV} {es : List E}, shTakes hs ss = some es → es.length = shSize hs
  | [], [], es, h => by obtain rfl := Option.some.inj h; rfl
  | [], _ :: _, es, h => by cases h
  | _ :: _, [], es, h => by cases h
  | h :: hs, s :: ss, es, ht => by
    unfold shTakes at ht
    split at ht
    · rename_i e es' he hes
      obtain rfl := Option.some.inj ht
      have h1 := shTakes_len hes
      have h2 : e.length = h.size := by
        have htk : ∀ {ls : List Lk} {ss : List SV} {es : List E}, takes ls ss = some es → es.length = ls.length := fun {ls} => by
          induction ls with
          | nil => intro ss es h; cases ss with
            | nil => obtain rfl := Option.some.inj h; rfl
            | cons s ss => cases h
          | cons l ls ih => intro ss es h; cases ss with
            | nil => cases h
            | cons s ss =>
              unfold takes at h
              split at h
              · rename_i e es' _ hes
                obtain rfl := Option.some.inj h
                simp [ih hes]
              · cases h
        unfold Sh.take at he
        split at he
        · rename_i l
          cases hl : l.take s with
          | none => simp [hl] at he
          | some e' => simp only [hl, Option.map_some, Option.some.injEq] at he; subst he; rfl
        · exact htk he
        · cases he
      simp only [List.length_append, h1, h2, shSize, List.map_cons, List.foldr_cons]
    · cases ht
theorem fnVals_getD (L : List Int) (ns : List Int) : ∀ (F : Nat → List Int → Int) (j : Nat), (∀ i, F (j + i) ns = L.getD i 0) → fnVals F ns L.length j = L := by
  induction L with
  | nil => intro F j _; rfl
  | cons x L ih =>
    intro F j h
    have h0 := h 0
    simp only [fnVals, List.length_cons, List.range'_succ, List.map_cons]
    have : (List.range' (j + 1) L.length).map (fun i => F i ns) = L := ih F (j + 1) fun i => by
      have := h (i + 1)
      rw [show j + 1 + i = j + (i + 1) by omega, this]
      simp
    rw [this]
    simp at h0
    rw [h0]
section
variable {P : Program} {F G : Nat → Nat → List Int → Int} {okF : FuncId → Bool} {sums : Sums} {keep : FuncId → Nat → List Nat} {fuel n : Nat}
theorem packV_unpack {rs : List Sh} {v : SV} {es : List E} {ρ : Env} {k : Nat} (h0 : rs.isEmpty = false) (hv : v.ok ρ k) (h : shTakes rs (unpackS rs v) = some es) : v.ev ρ β0 = packV (SV.evs ρ β0 (unpackS rs v)) ∧ SV.oks ρ k (unpackS rs v) := by
  match rs, h0, h with
  | [], h0, _ => cases h0
  | [_], _, _ => exact ⟨rfl, hv, trivial⟩
  | a :: b :: c, _, h =>
    cases v with
    | tuple l =>
      refine ⟨?_, hv⟩
      match l, h with
      | [], h => cases h
      | [s], h =>
        exfalso
        simp only [unpackS] at h
        unfold shTakes at h
        split at h
        · rename_i hes
          simp [shTakes] at hes
        · cases h
      | _ :: _ :: _, _ => rfl
    | _ => simp [unpackS, shTakes] at h
/-- What a function returns by its tree, at arguments in range, and what is known there. -/
theorem leaf_run (hm : P.follows .mixedOrders = true) (hok : ∀ f, okF f = true → ∀ as w, (callFunc f as).run P w = .ok (.enter f as) w) {name : Nat} (hB : But name F G) {f : FuncId} {ps rs : List Sh} {ns : List Int} (hns : shFits ps ns) {w : World}
    (hsum : SumsOk P (envOf F ns) w (fun _ => False) sums) {fs0 : Fs} (hfs : FsOk (envOf F ns) fs0) (hg : (callF P [] okF sums keep fuel n f (varShs ps 0) .nil fs0).good name rs = true) :
    ∃ o es, (callF P [] okF sums keep fuel n f (varShs ps 0) .nil fs0).pick (envOf G ns) = some o ∧ leafE rs o = some es ∧ E.evs (envOf F ns) es = E.evs (envOf G ns) es ∧
      Calls P f (shVals ps ns).toArray w fun e w' => e = .returned (packV (shVals rs (E.evs (envOf F ns) es))) ∧ FsOk (envOf F ns) o.fs ∧ shFits rs (E.evs (envOf F ns) es) ∧ Below w.heap.size w w' := by
  obtain ⟨o, es, p1, p2, p3, p4⟩ := T.good_pick hB ns hg
  obtain ⟨e1, e2, e3⟩ := varShs_spec (F := F) (β := β0) (n := 0) (hs := ps) (i := 0) hns
  rw [List.drop_zero] at e1
  refine ⟨o, es, p1, p2, p3, ?_⟩
  have hr := (callF_run (gl := []) (keep := keep) (fuel := fuel) hm hok hsum n f (varShs ps 0) .nil fs0 β0 w (fun v w' => v = packV (shVals rs (E.evs (envOf F ns) es)) ∧ FsOk (envOf F ns) o.fs ∧ shFits rs (E.evs (envOf F ns) es) ∧ Below w.heap.size w w') (heap_nil ..) hfs e2 (fun _ h => by cases h)
    (p4 _ fun β' w' _ _ _ hh hf hv => by
      unfold leafE at p2
      split at p2
      · rename_i hc
        obtain ⟨q1, q2⟩ := packV_unpack hc.2 hv p2
        obtain ⟨r1, r2⟩ := shTakes_spec (β := β0) q2 p2
        exact ⟨by rw [SV.ev_flat β' β0 _ hc.1, q1, r1], hf, r2, hh.kept.to_below⟩
      · cases p2)).2
  rw [e1] at hr
  exact hr.mono fun e w' ⟨v, he, hv, hx⟩ => ⟨by rw [he, hv], hx⟩
theorem calls_some {f : FuncId} {args : Array Value} {w : World} {R : Ending → World → Prop} {X : Prop} (h : Calls P f args w R) (hx : ∀ e w', R e w' → X) : X := by
  obtain ⟨e, w', fr, hr, _⟩ := h []
  exact hx e w' hr
/-- A function is its name, if the name stands for what its tree says. -/
theorem smAuto (hm : P.follows .mixedOrders = true) (hok : ∀ f, okF f = true → ∀ as w, (callFunc f as).run P w = .ok (.enter f as) w) {s : Sm} (hB : But s.name F G) {w0 : World} {M : Nat → Prop}
    (hsum : ∀ (ns : List Int) (w : World), Kept w0 M w → SumsOk P (envOf F ns) w (fun _ => False) sums) {ρ : Env} (hρ : ρ.fn = F)
    (hF : ∀ ns j, F s.name j ns = autoF G s.rs (callF P [] okF sums keep fuel n s.f (varShs s.ps 0) .nil (varFacts s.ps 0)) j ns)
    (hg : (callF P [] okF sums keep fuel n s.f (varShs s.ps 0) .nil (varFacts s.ps 0)).good s.name s.rs = true) : SmOk P ρ w0 M s := fun ns hns => by
  rw [hρ]
  have hfs := varFacts_ok (F := F) (hs := s.ps) (i := 0) (ns := ns) (by rwa [List.drop_zero])
  have key : ∀ w, Kept w0 M w → shFits s.rs (fnVals (F s.name) ns (shSize s.rs) 0) ∧ Calls P s.f (shVals s.ps ns).toArray w fun e w' => e = .returned (packV (shVals s.rs (fnVals (F s.name) ns (shSize s.rs) 0))) ∧ Below w.heap.size w w' := fun w hw => by
    obtain ⟨o, es, p1, p2, p3, hc⟩ := leaf_run hm hok hB hns (hsum ns w hw) hfs hg
    have hfit : shFits s.rs (E.evs (envOf F ns) es) := calls_some hc fun _ _ h => h.2.2.1
    have hlen : es.length = shSize s.rs := by
      unfold leafE at p2
      split at p2
      · exact shTakes_len p2
      · cases p2
    have hlen' : (E.evs (envOf F ns) es).length = shSize s.rs := by rw [evs_len, hlen]
    have hval : fnVals (F s.name) ns (shSize s.rs) 0 = E.evs (envOf F ns) es := by
      rw [← hlen']
      refine fnVals_getD _ ns _ 0 fun i => ?_
      rw [Nat.zero_add, hF ns i]
      unfold autoF
      simp only [p1, p2]
      rw [← p3, wrap_fits _ _ (by rw [hlen', length_shLks]) ((shFits_lks _ _).1 hfit)]
    rw [hval]
    exact ⟨hfit, hc.mono fun e w' h => ⟨h.1, h.2.2.2⟩⟩
  exact ⟨(key w0 (Kept.refl w0 M)).1, fun w hw => (key w hw).2⟩
theorem SmOk.congr {ρ ρ' : Env} {w0 : World} {M : Nat → Prop} {s : Sm} (he : ρ'.fn s.name = ρ.fn s.name) (h : SmOk P ρ w0 M s) : SmOk P ρ' w0 M s := fun ns hns => by
  rw [he]; exact h ns hns
/-- The ends of another function say the same by what is known. -/
def sameE (fs : Fs) : List E → List E → Bool
  | [], [] => true
  | a :: l, b :: m => (a.beq b || (canon fs a).beq (canon fs b)) && sameE fs l m
  | _, _ => false
theorem sameE_spec {ρ : Env} {fs : Fs} (hf : FsOk ρ fs) : ∀ {l m : List E}, sameE fs l m = true → E.evs ρ l = E.evs ρ m
  | [], [], _ => rfl
  | [], _ :: _, h => by cases h
  | _ :: _, [], h => by cases h
  | a :: l, b :: m, h => by
    simp only [sameE, Bool.and_eq_true, Bool.or_eq_true] at h
    simp only [E.evs]
    rw [sameE_spec hf h.2]
    congr 1
    rcases h.1 with h | h
    · rw [E.beq_eq _ _ h]
    · rw [← canon_ev hf a, ← canon_ev hf b, E.beq_eq _ _ h]
def sameO (rs : List Sh) (a b : Out) : Bool :=
  match leafE rs a, leafE rs b with
  | some es, some es' => sameE b.fs es es'
  | _, _ => false
def both2 (P : Program) (okF : FuncId → Bool) (sums : Sums) (keep : FuncId → Nat → List Nat) (fuel n : Nat) (f g : FuncId) (ps : List Sh) : T (Out × Out) :=
  (callF P [] okF sums keep fuel n f (varShs ps 0) .nil (varFacts ps 0)).bind fun a => (callF P [] okF sums keep fuel n g (varShs ps 0) .nil a.fs).bind fun b => .ok (a, b)
/-- Another function has the same name, if its tree says the same. -/
theorem smAuto2 (hm : P.follows .mixedOrders = true) (hok : ∀ f, okF f = true → ∀ as w, (callFunc f as).run P w = .ok (.enter f as) w) {s : Sm} {g : FuncId} (hB : But s.name F G) {w0 : World} {M : Nat → Prop}
    (hsum : ∀ (ns : List Int) (w : World), Kept w0 M w → SumsOk P (envOf F ns) w (fun _ => False) sums) {ρ : Env} (hρ : ρ.fn = F)
    (hF : ∀ ns j, F s.name j ns = autoF G s.rs (callF P [] okF sums keep fuel n s.f (varShs s.ps 0) .nil (varFacts s.ps 0)) j ns)
    (hg : (callF P [] okF sums keep fuel n s.f (varShs s.ps 0) .nil (varFacts s.ps 0)).good s.name s.rs = true)
    (h2 : (both2 P okF sums keep fuel n s.f g s.ps).all (fun p => sameO s.rs p.1 p.2) = true) : SmOk P ρ w0 M { s with f := g } := fun ns hns => by
  have hA := smAuto hm hok hB hsum hρ hF hg ns hns
  refine ⟨hA.1, fun w hw => ?_⟩
  rw [hρ] at hA ⊢
  have hfs := varFacts_ok (F := F) (hs := s.ps) (i := 0) (ns := ns) (by rwa [List.drop_zero])
  obtain ⟨o, es, p1, p2, p3, hc⟩ := leaf_run hm hok hB hns (hsum ns w hw) hfs hg
  have hfo : FsOk (envOf F ns) o.fs := calls_some hc fun _ _ h => h.2.1
  have hval : packV (shVals s.rs (E.evs (envOf F ns) es)) = packV (shVals s.rs (fnVals (F s.name) ns (shSize s.rs) 0)) := by
    obtain ⟨e, w', fr, hr, hcomes⟩ := hc []
    have hfit := hr.2.2.1
    have hlen : es.length = shSize s.rs := by
      unfold leafE at p2
      split at p2
      · exact shTakes_len p2
      · cases p2
    have hlen' : (E.evs (envOf F ns) es).length = shSize s.rs := by rw [evs_len, hlen]
    have : fnVals (F s.name) ns (shSize s.rs) 0 = E.evs (envOf F ns) es := by
      rw [← hlen']
      refine fnVals_getD _ ns _ 0 fun i => ?_
      rw [Nat.zero_add, hF ns i]
      unfold autoF
      simp only [p1, p2]
      rw [← p3, wrap_fits _ _ (by rw [hlen', length_shLks]) ((shFits_lks _ _).1 hfit)]
    rw [this]
  obtain ⟨e1, e2, e3⟩ := varShs_spec (F := F) (β := β0) (n := 0) (hs := s.ps) (i := 0) (ns := ns) (by rwa [List.drop_zero])
  rw [List.drop_zero] at e1
  -- the other's tree at the way that is taken
  have hpick : ∀ {t : T Out} {Q : Out → Prop}, t.pick (envOf G ns) = some o → t.good s.name s.rs = true → t.holds (envOf F ns) Q → Q o := fun {t} => by
    induction t with
    | ok a => intro Q hp _ hh; obtain rfl := Option.some.inj hp; exact hh
    | br c t e iht ihe =>
      intro Q hp hg hh
      simp only [T.good, Bool.and_eq_true] at hg
      have hcf := E.ev_free hB ns c hg.1.1
      simp only [T.pick] at hp
      split at hp
      · rename_i h0; exact iht hp hg.1.2 (hh.1 (by rw [hcf]; exact h0))
      · rename_i h0; exact ihe hp hg.2 (hh.2 (by rw [hcf]; simpa using h0))
    | both t e _ _ => intro Q hp; cases hp
    | bad k => intro Q hp; cases hp
  have hall := T.all_holds (ρ := envOf F ns) h2
  unfold both2 at hall
  rw [T.holds_bind] at hall
  have hB2 := hpick p1 hg hall
  rw [T.holds_bind] at hB2
  have hr := (callF_run (gl := []) (keep := keep) (fuel := fuel) hm hok (hsum ns w hw) n g (varShs s.ps 0) .nil o.fs β0 w (fun v w' => v = packV (shVals s.rs (fnVals (F s.name) ns (shSize s.rs) 0)) ∧ Below w.heap.size w w') (heap_nil ..) hfo e2 (fun _ h => by cases h)
    (T.holds_mono (fun b hb β' w' _ _ _ hh hf hv => by
      have hb : sameO s.rs o b = true := hb
      unfold sameO at hb
      rw [p2] at hb
      split at hb
      · rename_i es1 es' he1 he2
        obtain rfl := Option.some.inj he1
        have hs := sameE_spec hf hb
        unfold leafE at he2
        split at he2
        · rename_i hcc
          obtain ⟨q1, q2⟩ := packV_unpack hcc.2 hv he2
          obtain ⟨r1, r2⟩ := shTakes_spec (β := β0) q2 he2
          exact ⟨by rw [SV.ev_flat β' β0 _ hcc.1, q1, r1, ← hs, hval], hh.kept.to_below⟩
        · cases he2
      · cases hb) hB2)).2
  rw [e1] at hr
  exact hr.mono fun e w' ⟨v, he, hv, hx⟩ => ⟨by rw [he, hv], hx⟩
end
end Go.Proofs.YtbjficjcgpgcbaaDoor.SX
