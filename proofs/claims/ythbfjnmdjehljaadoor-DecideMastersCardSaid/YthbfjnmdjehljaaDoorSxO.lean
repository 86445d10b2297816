/- Laws whose parameters are plain data: opened, and their rows. Of no program. -/
import Derived.Test.YthbfjnmdjehljaaDoorSxK
import Derived.Test.YthbfjnmdjehljaaDoorFlat
namespace Go.Proofs.YthbfjnmdjehljaaDoor.SX
open Go Go.ChangeShapes Go.WideShapes Go.ChangeAt Go.RowKit Go.Deep
set_option linter.unusedVariables false
set_option linter.unusedSimpArgs false

def lkOf (P : Program) (t : TypeId) : Option Lk :=
  match P.underlying t with
  | some .bool => some .bool
  | some (.int k) => some (.int k)
  | _ => none
def lksOf (P : Program) : List TypeId → Option (List Lk)
  | [] => some []
  | t :: ts => match lkOf P t, lksOf P ts with
    | some l, some ls => some (l :: ls)
    | _, _ => none
def shOf (P : Program) (t : TypeId) : Option Sh :=
  match P.underlying t with
  | some (.struct _) => match flatTs P 6 t with
    | some ts => (lksOf P ts).map .agg
    | none => none
  | _ => (lkOf P t).map .one
def shsOf (P : Program) : List TypeId → Option (List Sh)
  | [] => some []
  | t :: ts => match shOf P t, shsOf P ts with
    | some h, some hs => some (h :: hs)
    | _, _ => none
section
variable {P : Program} {W : World} {base : Nat} {H : Type} {enc : TypeId × Value → H}
theorem leaf_lk {t : TypeId} {v : Value} {l : Lk} (hl : lkOf P t = some l) (h : Leaf P t v) : ∃ n, v = l.val n ∧ l.fits n := by
  unfold lkOf at hl
  split at hl
  · rename_i hu
    obtain rfl := Option.some.inj hl
    obtain ⟨b, rfl⟩ := h.bool hu
    exact ⟨if b then 1 else 0, (by cases b <;> simp [Lk.val]), trivial⟩
  · rename_i k hu
    obtain rfl := Option.some.inj hl
    obtain ⟨n, rfl, hw⟩ := h.int hu
    exact ⟨n, rfl, hw⟩
  · cases hl
theorem vals_append : ∀ {ls : List Lk} {ns ms : List Int}, ns.length = ls.length → vals ls (ns ++ ms) = vals ls ns ∧ (SX.fits ls (ns ++ ms) ↔ SX.fits ls ns)
  | [], ns, ms, h => ⟨rfl, Iff.rfl⟩
  | l :: ls, [], ms, h => by simp at h
  | l :: ls, n :: ns, ms, h => by
    obtain ⟨a, b⟩ := vals_append (ls := ls) (ns := ns) (ms := ms) (by simpa using h)
    simp only [List.cons_append, vals, SX.fits, List.headD_cons, List.tail_cons, a, b]
    exact ⟨trivial, trivial⟩
theorem all2_lks : ∀ {ts : List TypeId} {ls : List Lk} {cs : List Value}, lksOf P ts = some ls → All2 (Leaf P) ts cs → ∃ ns : List Int, ns.length = ls.length ∧ cs = vals ls ns ∧ SX.fits ls ns
  | [], ls, cs, hl, h => by
    obtain rfl := Option.some.inj hl
    cases h
    exact ⟨[], rfl, rfl, trivial⟩
  | t :: ts, ls, cs, hl, h => by
    unfold lksOf at hl
    split at hl
    · rename_i l ls' h1 h2
      obtain rfl := Option.some.inj hl
      cases h with
      | cons hv hr =>
        obtain ⟨n, rfl, hf⟩ := leaf_lk h1 hv
        obtain ⟨ns, h3, rfl, h5⟩ := all2_lks h2 hr
        exact ⟨n :: ns, by simp [h3], rfl, hf, h5⟩
    · cases hl
theorem open_sh {t : TypeId} {h : Sh} {v : Value} {d : DataW H} {p : List MemPlace} (hs : shOf P t = some h) (hv : Value.okWide P W .any base t v) (ht : DataW.Trod enc P W 0 (fun _ => true) true t v d p) :
    ∃ ns : List Int, ns.length = h.size ∧ v = h.val ns ∧ h.fits ns := by
  unfold shOf at hs
  split at hs
  · rename_i fs hu
    split at hs
    · rename_i ts hf
      cases hl : lksOf P ts with
      | none => simp [hl] at hs
      | some ls =>
        simp only [hl, Option.map_some, Option.some.injEq] at hs
        subst hs
        obtain ⟨cs, rfl, hall⟩ := open_flat hu hf hv ht
        obtain ⟨ns, h1, rfl, h3⟩ := all2_lks hl hall
        exact ⟨ns, h1, rfl, h3⟩
    · cases hs
  · rename_i hne
    cases hl : lkOf P t with
    | none => simp [hl] at hs
    | some l =>
      simp only [hl, Option.map_some, Option.some.injEq] at hs
      subst hs
      unfold lkOf at hl
      split at hl
      · rename_i hu
        obtain rfl := Option.some.inj hl
        obtain ⟨b, rfl, _, _⟩ := open_bool hu hv ht
        exact ⟨[if b then 1 else 0], rfl, (by cases b <;> simp [Sh.val, Lk.val]), trivial⟩
      · rename_i k hu
        obtain rfl := Option.some.inj hl
        obtain ⟨n, rfl, _, _, hw⟩ := open_int hu hv ht
        exact ⟨[n], rfl, rfl, hw⟩
      · cases hl
theorem Sh.val_append {h : Sh} {ns ms : List Int} (hl : ns.length = h.size) : h.val (ns ++ ms) = h.val ns ∧ (h.fits (ns ++ ms) ↔ h.fits ns) := by
  cases h with
  | one l =>
    match ns, hl with
    | [n], _ => exact ⟨rfl, Iff.rfl⟩
  | agg ls =>
    obtain ⟨a, b⟩ := vals_append (ls := ls) (ms := ms) hl
    exact ⟨by simp only [Sh.val, a], b⟩
theorem open_args : ∀ {ts : List TypeId} {hs : List Sh} {vs : List Value} {ds : List (DataW H)} {p : List MemPlace}, shsOf P ts = some hs → (∀ (j : Nat) t v, ts[j]? = some t → vs[j]? = some v → Value.okWide P W .any base t v) →
    DataW.TrodAll enc P W 0 (fun _ => true) true ts vs ds p → ∃ ns : List Int, vs = shVals hs ns ∧ shFits hs ns
  | [], hs, vs, ds, p, h, _, hA => by
    obtain rfl := Option.some.inj h
    cases vs with
    | nil => exact ⟨[], rfl, trivial⟩
    | cons v vs => cases ds <;> exact hA.elim
  | t :: ts, hs, [], ds, p, _, _, hA => by cases ds <;> exact hA.elim
  | t :: ts, hs, v :: vs, ds, p, h, hval, hA => by
    unfold shsOf at h
    split at h
    · rename_i h1 hs1 hh hhs
      obtain rfl := Option.some.inj h
      cases ds with
      | nil => exact hA.elim
      | cons d ds =>
        obtain ⟨p0, q0, a0, a1, _⟩ := hA
        obtain ⟨ns, n1, rfl, n3⟩ := open_sh hh (hval 0 t v rfl rfl) a0
        obtain ⟨ms, rfl, m2⟩ := open_args hhs (fun j t v ht hv => hval (j + 1) t v (by simpa using ht) (by simpa using hv)) a1
        refine ⟨ns ++ ms, ?_, ?_⟩
        · simp only [shVals]
          rw [(Sh.val_append n1).1, ← n1, List.drop_left]
        · simp only [shFits]
          rw [(Sh.val_append n1).2, ← n1, List.drop_left]
          exact ⟨n3, m2⟩
    · cases h
/-- The walk of a law's row, out of its calls at plain data. -/
theorem pays_flat {X : World → Prop} {F : FuncId} {fn : Func} {hs : List Sh} (hsh : shsOf P fn.params.toList = some hs)
    (hlaw : ∀ ns : List Int, shFits hs ns → ∀ W, X W → Calls P F (shVals hs ns).toArray W fun e W' => e = .returned (.bool true) ∧ Below W.heap.size W W')
    (W : World) (base : Nat) (args : Array Value) (ds : List (DataW H)) (p : List MemPlace)
    (hval : ∀ (j : Nat) t v, fn.params[j]? = some t → args[j]? = some v → Value.okWide P W .any base t v) (hA : DataW.TrodAll enc P W 0 (fun _ => true) true fn.params.toList args.toList ds p) (_ : ∀ x ∈ p, x.block < W.heap.size) (hX : X W) : Pays P F args W := by
  obtain ⟨ns, h1, h2⟩ := open_args hsh (fun j t v ht hv => hval j t v (by simpa using ht) (by simpa using hv)) hA
  have : args = (shVals hs ns).toArray := by rw [← h1]
  rw [this]
  exact hlaw ns h2 W hX
/-- A law's row without listed variables. -/
theorem law_lifted0 {C : Checked} {os : Os} {F : FuncId} {fn : Func} {s : ChangeSpec} {tb : TypeId}
    (hout : laidOutB C.prog = true) (own : ownKnob C.prog.godebug = none) (started : os.Started) (noInit : C.prog.inits.idxOf? F = none) (hfn : C.prog.funcs[F]? = some fn)
    (hvars : s.vars = []) (hspec : ∀ ds : List (DataW H), ds.length = fn.params.size → s.fn H (ds ++ []) = { results := [.lit (.bool true)], args := ds })
    (hres : fn.resultTypes = #[tb]) (hb : C.prog.underlying tb = some .bool) (hparams : (fn.params.toList.all fun t => C.prog.readableRec t && decide (t < C.prog.types.size)) = true)
    (witness : ∃ (w : World) (tape : Tape) (i : Input), w.os = os ∧ (w.forCall tape i).Shaped C.prog ∧ i.vars = [] ∧ Input.okWide C.prog (w.forCall tape i) .any w.heap.size F i ∧
      s.pre6 enc C.prog fn [] false (w.forCall tape i).memory i.args ∧ Assume.holds {} C.prog (lone (Frame.enter C.prog F i.args .normal) [] (w.forCall tape i)))
    (walk : ∀ (W : World) (base : Nat) (args : Array Value) (ds : List (DataW H)) (p : List MemPlace),
      (∀ (j : Nat) t v, fn.params[j]? = some t → args[j]? = some v → Value.okWide C.prog W .any base t v) →
      DataW.TrodAll enc C.prog W 0 (fun _ => true) true fn.params.toList args.toList ds p → (∀ x ∈ p, x.block < W.heap.size) → True → Pays C.prog F args W) :
    ReturnsInHanded {} C os F .any (s.pre6 enc C.prog fn [] false) (s.post enc C.prog fn false true false false) := by
  refine returnsInHanded_of_change (C := C) own started noInit hfn witness ?_
  intro W base args ds gs before hval hW _ _
  have hW' := hW
  obtain ⟨p, q, hA, hV, rfl, _, _⟩ := hW
  obtain ⟨rfl, rfl⟩ : gs = [] ∧ q = [] := by
    rw [hvars] at hV
    exact trodVars_none hV
  have hlt : ∀ x ∈ p, x.block < W.heap.size := fun x hx => hW'.lt x (by simpa using hx)
  have hlen : ds.length = fn.params.size := by
    have : ∀ (ts : List TypeId) (vs : List Value) (ds : List (DataW H)) (ps : List MemPlace), DataW.TrodAll enc C.prog W 0 (fun _ => true) true ts vs ds ps → ds.length = ts.length := by
      intro ts
      induction ts with
      | nil => intro vs ds ps h; cases vs <;> cases ds <;> first | rfl | exact h.elim
      | cons t ts ih =>
        intro vs ds ps h
        cases vs with
        | nil => cases ds <;> exact h.elim
        | cons v vs =>
          cases ds with
          | nil => exact h.elim
          | cons d ds => obtain ⟨_, _, _, h1, _⟩ := h; simp [ih _ _ _ h1]
    simpa using this _ _ _ _ hA
  refine (walk W base args ds p hval hA hlt trivial).mono fun e W' ⟨he, hg⟩ => ?_
  subst he
  refine ⟨_, rfl, ds, [], p ++ [], [], p, [], hW', ?_, ?_, ?_, ?_, fun h => by cases h⟩
  · rw [hspec ds hlen, hres]
    exact trodAll_mk1 (shut_bool hb true)
  · rw [hspec ds hlen]
    exact Below.trodAll hout hg (fun t ht => by simpa using List.all_eq_true.1 hparams t ht) hA hlt _ (fun x hx => by simpa using hlt x hx)
  · rw [hspec ds hlen, hvars]
    rfl
  · exact World.keptBut_mono (fun x hx => ⟨hx, Or.inr (Or.inl (by simpa using hx))⟩) (hg.frame (· ∈ p ++ []))
end
end Go.Proofs.YthbfjnmdjehljaaDoor.SX
