/- The law DecideAlone of layer 36: ports that the law itself makes, none of which has heard anything. -/
import Derived.Test.YthbfjnmdjehljaaDoorDcE
namespace Go.Proofs.YthbfjnmdjehljaaDoor
open Go Go.RowKit SX
open DsLaw (lt)
set_option linter.unusedVariables false

namespace DcLaw
theorem code_alone {own : DS} {has : Nat → Bool} {set : Nat → DS} {n : Nat} (h : ∀ i, has i = false) (i : Nat) : code own has set n i = if own.cls ≤ 127 then 1 else 2 := by
  have h0 : least has set n < 0 := by
    by_cases h0 : 0 ≤ least has set n
    · have := (least_spec h0).1
      rw [h] at this
      cases this
    · omega
  unfold code
  split
  · rw [if_pos (.inl (h i))]
  · rw [if_pos (.inl h0)]
end DcLaw
/-- The array of the ports: the sets of the given array, nothing heard. -/
def shiftA (A : Nat → Nat → Int → Int) : Nat → Nat → Int → Int := fun a c i => if c < 8 then 0 else A a (c - 8) i
def setD (i : E) : List E := [.rd 0 3 i, .rd 0 11 i, .rd 0 19 i, .rd 0 27 i, .rd 0 35 i, .rd 0 47 i, .rd 0 51 i, .rd 0 63 i, .rd 0 67 i, .rd 0 79 i, .rd 0 83 i]
def altRow (i : Nat) : List SV := .bool (.lit 0) :: dsVs dsLk (setD (litN i))
def altCells (m : Nat) : List SV := (List.range m).flatMap altRow
def spAlone : Spc := fun f args hp fs => match args with
  | [o, .slice b 0 m none] => match hp.at b with
    | some ⟨_, .cells cs _ 13⟩ => if f = 9 ∧ 1 ≤ m ∧ m ≤ 8 ∧ litNat (canon fs (.var 11)) = some m ∧ SV.fitL fs (fun i => .var i) id hp.n [ownS] [o] = true ∧ SV.fitL fs (fun i => .var i) id hp.n (altCells m) cs = true then
        some ⟨.tuple [.slice hp.n 0 m (some m), .int .i64 (.lit 0)], hp.push ⟨true, .cells (codesS m) 3 0⟩, fs⟩ else none
    | _ => none
  | _ => none
theorem flat_get {α : Type} {row : Nat → List α} {z : Nat} (hlen : ∀ i, (row i).length = z) : ∀ {m i f : Nat}, i < m → f < z → ((List.range m).flatMap row)[i * z + f]? = (row i)[f]?
  | 0, i, f, h, _ => by omega
  | m + 1, i, f, h, hf => by
    have hl : ((List.range m).flatMap row).length = m * z := by
      clear h
      induction m with
      | zero => simp
      | succ m ih => rw [List.range_succ, List.flatMap_append, List.length_append, ih, List.flatMap_singleton, hlen, Nat.succ_mul]
    rw [List.range_succ, List.flatMap_append, List.flatMap_singleton]
    by_cases hi : i < m
    · have : i * z + f < m * z := by
        have : (i + 1) * z ≤ m * z := Nat.mul_le_mul_right z hi
        rw [Nat.succ_mul] at this
        omega
      rw [List.getElem?_append_left (by rw [hl]; exact this)]
      exact flat_get hlen hi hf
    · obtain rfl : i = m := by omega
      rw [List.getElem?_append_right (by rw [hl]; omega), hl]
      congr 1
      omega
section
variable {ρ : Env} {w0 : World} {gl : Gl}
theorem altRow_get (β : Bm) (i : Nat) {f : Nat} {l : Lk} (hl : portLk[f]? = some l) : (SV.evs ρ β (altRow i))[f]? = some (l.val ((kOf (l.code f)).wrap (shiftA ρ.arr 0 (l.code f) i))) := by
  match f, hl with
  | 0, hl => obtain rfl := Option.some.inj hl; rfl
  | 1, hl => obtain rfl := Option.some.inj hl; rfl
  | 2, hl => obtain rfl := Option.some.inj hl; rfl
  | 3, hl => obtain rfl := Option.some.inj hl; rfl
  | 4, hl => obtain rfl := Option.some.inj hl; rfl
  | 5, hl => obtain rfl := Option.some.inj hl; rfl
  | 6, hl => obtain rfl := Option.some.inj hl; rfl
  | 7, hl => obtain rfl := Option.some.inj hl; rfl
  | 8, hl => obtain rfl := Option.some.inj hl; rfl
  | 9, hl => obtain rfl := Option.some.inj hl; rfl
  | 10, hl => obtain rfl := Option.some.inj hl; rfl
  | 11, hl => obtain rfl := Option.some.inj hl; rfl
  | n + 12, hl => simp [portLk, dsLk] at hl
theorem alt_evs (β : Bm) (m : Nat) : SV.evs ρ β (altCells m) = (List.range m).flatMap fun i => SV.evs ρ β (altRow i) := by
  simp only [altCells, SV.evs_map, List.map_flatMap]
theorem spAlone_ok (hf : ρ.fn = namesD (ownOf ρ) (shiftA ρ.arr) (ρ.v 11).toNat) (ht : TabsIn tabs36 w0) :
    SpecOk Tryd.prog ρ w0 (fun _ => False) gl spAlone := fun f args hp fs o h β w hh hfs ha hg => by
  unfold spAlone at h
  split at h
  · rename_i ow b m
    split at h
    · rename_i r cs ty hk
      split at h
      · rename_i hc
        obtain ⟨rfl, c1, c2, hm, c3, c4⟩ := hc
        have hm' : (ρ.v 11).toNat = m := by
          have h1 := canon_ev (ρ := ρ) (fs := fs) hfs (.var 11)
          unfold litNat at hm
          split at hm
          · rename_i q hq
            obtain rfl := Option.some.inj hm
            rw [hq] at h1
            have h2 : ρ.v 11 = (q : Int) := h1.symm
            rw [h2, Int.toNat_natCast]
          · cases hm
        obtain rfl := Option.some.inj h
        obtain ⟨a0, a1, _⟩ := ha
        obtain ⟨f1, f2⟩ := SV.fitL_spec (β := β) (m := hp.n) hfs _ _ c3
        obtain ⟨g1, g2⟩ := SV.fitL_spec (β := β) (m := hp.n) hfs _ _ c4
        rw [envSub_var] at f1 f2 g1 g2
        have ho : ow.ev ρ β = dsV (dsOf [ρ.v 0, ρ.v 1, ρ.v 2, ρ.v 3, ρ.v 4, ρ.v 5, ρ.v 6, ρ.v 7, ρ.v 8, ρ.v 9, ρ.v 10]) := by
          simp only [SV.evs, List.cons.injEq, and_true] at f1
          rw [f1]; rfl
        have hfits : phFits decSh [ρ.v 0, ρ.v 1, ρ.v 2, ρ.v 3, ρ.v 4, ρ.v 5, ρ.v 6, ρ.v 7, ρ.v 8, ρ.v 9, ρ.v 10] := by
          obtain ⟨d0, d1, d2, d3, d4, d5, d6, d7, d8, d9, d10, _⟩ := (f2 ⟨a0, trivial⟩).1
          exact ⟨⟨d0, d1, d2, d3, d4, d5, d6, d7, d8, d9, d10, trivial⟩, trivial⟩
        obtain ⟨rest, hcell, hsz⟩ := hh.lies b _ hk
        have hcl : cs.length = m * 12 := by
          have h1 := congrArg List.length g1
          rw [SV.evs_map, List.length_map, alt_evs] at h1
          rw [h1]
          have : ∀ k : Nat, ((List.range k).flatMap fun i => SV.evs ρ (fun k => β (id k)) (altRow i)).length = k * 12 := fun k => by
            induction k with
            | zero => rfl
            | succ k ih => rw [List.range_succ, List.flatMap_append, List.length_append, ih, List.flatMap_singleton, Nat.succ_mul]; rfl
          exact this m
        have hsz' : cs.length + rest.length = (β b).2 * 12 := hsz
        have hblt : (β b).1 < w.heap.size := (Array.getElem?_eq_some_iff.1 hcell).1
        have hA : ArrIn w portLk (β b).1 0 m (β b).2 (shiftA ρ.arr) := by
          refine ⟨by omega, by omega, c1, hblt, fun i f l hi hl => ?_⟩
          have hf12 : f < 12 := (List.getElem?_eq_some_iff.1 hl).1
          have hget : (SV.evs ρ β cs ++ rest)[i * 12 + f]? = some (l.val ((kOf (l.code f)).wrap (shiftA ρ.arr 0 (l.code f) i))) := by
            have hlt : i * 12 + f < (SV.evs ρ β cs).length := by rw [SV.evs_map, List.length_map, hcl]; omega
            rw [List.getElem?_append_left hlt, g1, alt_evs, flat_get (z := 12) (fun _ => rfl) hi hf12]
            exact altRow_get _ i hl
          refine ⟨?_, ?_⟩
          · unfold World.cell?
            simp only [hcell]
            show (SV.evs ρ β cs ++ rest).toArray[0 + (i * 12 + f)]? = _
            rw [Nat.zero_add, List.getElem?_toArray]
            exact hget
          · cases l with
            | int k =>
              have hk' : kOf ((Lk.int k).code f) = k := kOf_code f k
              show (Lit.int k _).wf = true
              rw [hk']
              exact wf_wrap k _
            | bool => trivial
        have hfm : ρ.fn = namesD (dsOf [ρ.v 0, ρ.v 1, ρ.v 2, ρ.v 3, ρ.v 4, ρ.v 5, ρ.v 6, ρ.v 7, ρ.v 8, ρ.v 9, ρ.v 10]) (shiftA ρ.arr) m := by
          rw [hf, hm']
          rfl
        have hargs : SV.evs ρ β [ow, .slice b 0 m none] = [dsV (dsOf [ρ.v 0, ρ.v 1, ρ.v 2, ρ.v 3, ρ.v 4, ρ.v 5, ρ.v 6, ρ.v 7, ρ.v 8, ρ.v 9, ρ.v 10]), .slice (some ⟨(β b).1, 0, none⟩) m (β b).2] := by
          simp only [SV.evs, ho, SV.ev, Option.getD_none]
        rw [hargs]
        refine (decA_calls (TabsIn.kept ht hh.kept) hA c2 hfits rfl).mono fun e w' ⟨β', he, hl, hs, hb⟩ => ?_
        refine ⟨upd β hp.n (β' 4), upd_ext _ _ _, by simp, Stay.push _ _, push_new hh hb hs (fun β β'' => codes_ev hfm β β'' _) (codes_ok hfm _ _) hl, hfs, ⟨by show hp.n < _; simp, rfl, trivial⟩, ?_⟩
        rw [he]
        show Ending.returned (.tuple #[.slice (some ⟨(β' 4).1, 0, none⟩) m m, .int .i64 0]) = Ending.returned (.tuple #[.slice (some ⟨(upd β hp.n (β' 4) hp.n).1, 0, none⟩) m m, .int .i64 0])
        rw [upd_same]
      · cases h
    · cases h
  · cases h
end

/-! ### The law -/
def alnSh : List Ph := [.sh dsSh, .sl dsLk]
def spA : Spc := orSpec spAlone (sumSpec sumsL)
/-- A low class: all codes are 1; else all are 2. -/
def alnF (m : Nat) (lo : Bool) : Fs := (lt0 (.lit 127) (.var 1), !lo) :: (List.range m).map fun i => (eq0 (codeE i) (.lit (if lo then 1 else 2)), true)
noncomputable def alnT (p : Fs) : T Out := callG Tryd.prog (tabGl tabs36 0) okF spA noKeep 80 30 6 (phArgs tabs36.length (phSize alnSh) none alnSh 0) (arrHp tabs36 (phKs alnSh) (phSize alnSh)) (p ++ (lenU (phSize alnSh) ++ phFacts alnSh 0))
section
variable {A : Nat → Nat → Int → Int} {b off len cap : Nat} {ns : List Int} {w : World}
theorem aln_env (hl : ns.length = 11) : (envA (namesD (dsOf ns) (shiftA A) len) (ns ++ [(len : Int), (cap : Int)]) A).fn = namesD (ownOf (envA (namesD (dsOf ns) (shiftA A) len) (ns ++ [(len : Int), (cap : Int)]) A)) (shiftA (envA (namesD (dsOf ns) (shiftA A) len) (ns ++ [(len : Int), (cap : Int)]) A).arr) ((envA (namesD (dsOf ns) (shiftA A) len) (ns ++ [(len : Int), (cap : Int)]) A).v 11).toNat ∧
    (envA (namesD (dsOf ns) (shiftA A) len) (ns ++ [(len : Int), (cap : Int)]) A).v 11 = len := by
  have hv : (envA (namesD (dsOf ns) (shiftA A) len) (ns ++ [(len : Int), (cap : Int)]) A).v 11 = len := by
    show (ns ++ [(len : Int), (cap : Int)]).getD 11 0 = len
    rw [← hl]; simp
  rw [own_any (by omega), hv, Int.toNat_natCast]
  exact ⟨rfl, rfl⟩
theorem aln_tree_pays (ht : TabsIn tabs36 w) (hA : ArrIn w (phKs alnSh) b off len cap A) (hns : phFits alnSh ns) (hl : ns.length = phSize alnSh) {p : Fs} (hp : FsOk (envA (namesD (dsOf ns) (shiftA A) len) (ns ++ [(len : Int), (cap : Int)]) A) p)
    (h : (alnT p).all isTrueF = true) : Calls Tryd.prog 6 (phVals alnSh ns [.slice (some ⟨b, off, none⟩) len cap]).toArray w fun e w' => e = .returned (.bool true) ∧ Below w.heap.size w w' :=
  pays_arr (keep := noKeep) (fuel := 80) (n := 30) tabs36 tabs36_nd ht mixed okF_ok (namesD (dsOf ns) (shiftA A) len) rfl hA hns hl hp (orSpec_ok (spAlone_ok (aln_env hl).1 ht) (sumSpec_ok (sumsL_ok _ rfl ht))) h
theorem alnF_ok (hl : ns.length = 11) (m : Nat) : FsOk (envA (namesD (dsOf ns) (shiftA A) len) (ns ++ [(len : Int), (cap : Int)]) A) (alnF m (decide ((dsOf ns).cls ≤ 127))) := by
  have ho := own_any (A := A) (ns := ns) (by omega) [(len : Int), (cap : Int)] (namesD (dsOf ns) (shiftA A) len)
  have hc : (envA (namesD (dsOf ns) (shiftA A) len) (ns ++ [(len : Int), (cap : Int)]) A).v 1 = (dsOf ns).cls := by rw [← ho]; rfl
  intro p hp
  rcases List.mem_cons.1 hp with rfl | hp
  · show (lt0 (.lit 127) (.var 1)).ev _ ≠ 0 ↔ (!decide ((dsOf ns).cls ≤ 127)) = true
    rw [lt0_ev, lit_ev, var_ev, hc]
    simp
  · obtain ⟨i, _, rfl⟩ := List.mem_map.1 hp
    show (eq0 (codeE i) _).ev _ ≠ 0 ↔ true = true
    rw [eq0_ev, codeE_ev (own := dsOf ns) (A := shiftA A) (n := len) rfl, DcLaw.code_alone (fun i => by simp [hasA, rdA, shiftA, kOf, IntKind.wrap, IntKind.bits, IntKind.signed])]
    by_cases h : (dsOf ns).cls ≤ 127 <;> simp [h, lit_ev]
end
end Go.Proofs.YthbfjnmdjehljaaDoor
