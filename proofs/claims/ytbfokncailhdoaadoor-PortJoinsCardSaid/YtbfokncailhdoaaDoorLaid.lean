/- Listed variables that are arrays of plain data: what their cells hold. Of no program. -/
import Derived.Test.YtbfokncailhdoaaDoorGen
import Derived.OpenShut
import Derived.LaidByTextLater
import Derived.SevenTiedAt
namespace Go.Proofs.YtbfokncailhdoaaDoor
open Go.ChangeShapes Go.WideShapes Go.ChangeAt Go.RowKit Go.Deep

mutual
/-- A closed plain datum's cells. -/
def flatD {H : Type} : DataW H → Option (List Value)
  | .lit (.bool b) => some [.bool b]
  | .lit (.int k n) => some [.int k n]
  | .lit (.string s) => some [.string ⟨s.toArray⟩]
  | .agg ps => flatDs ps
  | _ => none
def flatDs {H : Type} : List (DataW H) → Option (List Value)
  | [] => some []
  | d :: ds => match flatD d, flatDs ds with
    | some a, some b => some (a ++ b)
    | _, _ => none
end

def arrOK (P : Program) : Nat → TypeId → Bool
  | 0, _ => false
  | n + 1, t => match P.underlying t with
    | some .bool | some (.int _) | some .string => true
    | some (.array k e) => arrOK P n e && decide (P.cellsOf t = k * P.cellsOf e)
    | _ => false

section
variable {H : Type} {enc : TypeId × Value → H} {P : Program} {w : World} {base : Nat} {sp : Nat → Bool} {held : Bool}

theorem flatDs_of {e : TypeId} {m : Nat} (hrec : ∀ cs x, DataW.trod enc P w base sp held m e cs = some x → flatD x.1 = some cs) :
    ∀ (k : Nat) (cs : List Value) (xs : List (DataW H × List MemPlace)), cs.length = k * P.cellsOf e → xs.length = k →
      (∀ i, i < k → DataW.trod enc P w base sp held m e ((cs.drop (i * P.cellsOf e)).take (P.cellsOf e)) = xs[i]?) → flatDs (xs.map (·.1)) = some cs
  | 0, cs, xs, hc, hx, _ => by
    obtain rfl : xs = [] := List.eq_nil_of_length_eq_zero hx
    obtain rfl : cs = [] := List.eq_nil_of_length_eq_zero (by simpa using hc)
    rfl
  | k + 1, cs, x :: xs, hc, hx, hi => by
    have h0 := hi 0 (by omega)
    simp only [Nat.zero_mul, List.drop_zero, List.getElem?_cons_zero] at h0
    have hr := flatDs_of hrec k (cs.drop (P.cellsOf e)) xs (by rw [List.length_drop, hc, Nat.succ_mul]; omega) (by simpa using hx) (fun i hik => by
      have := hi (i + 1) (by omega)
      rw [List.getElem?_cons_succ] at this
      rw [← this, List.drop_drop, Nat.succ_mul, Nat.add_comm])
    simp only [List.map_cons, flatDs, hrec _ _ h0, hr, List.take_append_drop]

theorem flatD_of_trod : ∀ (n : Nat) (t : TypeId) (fuel : Nat) (cs : List Value) (x : DataW H × List MemPlace), arrOK P n t = true → DataW.trod enc P w base sp held fuel t cs = some x → flatD x.1 = some cs
  | 0, _, _, _, _, h, _ => by simp [arrOK] at h
  | n + 1, t, fuel, cs, x, h, hx => by
    unfold arrOK at h
    cases hu : P.underlying t with
    | none => simp [hu] at h
    | some d =>
      rw [hu] at h
      cases d with
      | bool => obtain ⟨b, rfl, rfl⟩ := DataW.trod_bool hu hx; rfl
      | int k => obtain ⟨b, rfl, rfl, _⟩ := DataW.trod_int hu hx; rfl
      | string => obtain ⟨b, rfl, rfl, _⟩ := DataW.trod_string hu hx; simp [flatD]
      | array k e =>
        simp only [Bool.and_eq_true, decide_eq_true_eq] at h
        obtain ⟨xs, m, _, rfl, hl, hxl, hi⟩ := DataW.trod_array hu hx
        exact flatDs_of (fun cs x hx => flatD_of_trod n e m cs x h.1 hx) k cs xs (by rw [hl, h.2]) hxl hi
      | _ => simp at h

/-- A listed variable's cells. -/
theorem laid_cell {l : List (String × DataW Unit)} {name : String} {d : DataW Unit} {g : Nat} {t : TypeId} {n : Nat} {cs : List Value} (hl : laidMet P l w) (hm : (name, d) ∈ l) (hg : P.globalNamed name = some g)
    (hty : (P.globals[g]?).map (·.type) = some t) (hok : arrOK P n t = true) (hd : flatD d = some cs) (i : Nat) (v : Value) (hv : cs[i]? = some v) : w.cell? ⟨g, i, none⟩ = some v := by
  obtain ⟨ps, hL, _⟩ := hl
  have : ∀ (l : List (String × DataW Unit)) (ps : List MemPlace), DataW.LaidVars P w l ps → (name, d) ∈ l →
      ∃ cs' fuel p, w.var? P name = some cs' ∧ DataW.trod (fun _ => ()) P w 0 (fun _ => true) false fuel t cs'.toList = some (d, p) := by
    intro l
    induction l with
    | nil => intro ps _ h; cases h
    | cons x l ih =>
      intro ps hL hm
      obtain ⟨g', t', cs', fuel, p, q, hg', ht', hv', hd', hrest, _⟩ := hL
      rcases List.mem_cons.1 hm with h | h
      · obtain rfl : x = (name, d) := h.symm
        obtain rfl := Option.some.inj (hg.symm.trans hg')
        obtain rfl := Option.some.inj (hty.symm.trans ht')
        exact ⟨cs', fuel, p, hv', hd'⟩
      · exact ih _ hrest h
  obtain ⟨cs', fuel, p, hvar, htr⟩ := this l ps hL hm
  have := flatD_of_trod n t fuel _ _ hok htr
  rw [hd] at this
  obtain rfl := Option.some.inj this
  have := World.var?_cell hg hvar i
  rw [this]
  simpa using hv
end
end Go.Proofs.YtbfokncailhdoaaDoor
