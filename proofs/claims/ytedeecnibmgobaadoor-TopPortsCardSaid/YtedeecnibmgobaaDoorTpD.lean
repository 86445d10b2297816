/- For TopPorts: the contract of Decide, of the program and of the reference, and what it says at a call in a law. -/
import Derived.Test.YtedeecnibmgobaaDoorTpR0
import Derived.Test.YtedeecnibmgobaaDoorTpR1
import Derived.Test.YtedeecnibmgobaaDoorTpR2
import Derived.Test.YtedeecnibmgobaaDoorTpR3
import Derived.Test.YtedeecnibmgobaaDoorTpR4
import Derived.Test.YtedeecnibmgobaaDoorMg
namespace Go.Proofs.YtedeecnibmgobaaDoor
open Go Go.RowKit SX
open DsLaw (lt)
set_option linter.unusedVariables false

theorem upTo_spec {m : Nat} {p : Nat → Bool} (h : upTo m p = true) {i : Nat} (hi : i ≤ m) : p i = true := List.all_eq_true.1 h i (List.mem_range.2 (by omega))
theorem decA_all {m : Nat} (h1 : 1 ≤ m) (h8 : m ≤ 8) : decEnterA m = true ∧ ∀ g, upTo m (fun i => decRoundA m i g) = true := by
  match m, h1, h8 with
  | 1, _, _ => exact ⟨decA_enter1, decA_rounds1⟩
  | 2, _, _ => exact ⟨decA_enter2, decA_rounds2⟩
  | 3, _, _ => exact ⟨decA_enter3, decA_rounds3⟩
  | 4, _, _ => exact ⟨decA_enter4, decA_rounds4⟩
  | 5, _, _ => exact ⟨decA_enter5, decA_rounds5⟩
  | 6, _, _ => exact ⟨decA_enter6, decA_rounds6⟩
  | 7, _, _ => exact ⟨decA_enter7, decA_rounds7⟩
  | 8, _, _ => exact ⟨decA_enter8, decA_rounds8⟩
set_option maxRecDepth 1000000 in
theorem decA_body : Tryd.f4.body = some decCodeA := by kernel_rfl
theorem range_upto (K : Nat) (f : Nat → E) (hf : ∀ j, (f j).upto K = true) : ∀ l : List Nat, SV.uptos K (l.map fun j => .int .i64 (f j)) = true
  | [] => rfl
  | j :: l => by simp only [List.map_cons, SV.uptos, SV.upto, hf, range_upto K f hf l, Bool.and_self]
section
variable {b off len cap : Nat} {A : Nat → Nat → Int → Int} {w : World} {ns : List Int}
theorem own_ns (hlen : ns.length = 11) (l : List Int) (F : Nat → Nat → List Int → Int) : ownOf (envA F (ns ++ l) A) = dsOf ns := by
  match ns, hlen with
  | [_, _, _, _, _, _, _, _, _, _, _], _ => rfl
theorem dec_env (hlen : ns.length = 11) {ρ' : Env} (hρ : SameK (phSize decSh + 2) (envA (namesD (dsOf ns) A len) (ns ++ [(len : Int), (cap : Int)]) A) ρ') :
    ρ'.fn = namesD (ownOf ρ') A len ∧ ρ'.arr = A ∧ ρ'.v 11 = len ∧ ownOf ρ' = dsOf ns := by
  have h : ∀ i, i < 13 → ρ'.v i = (ns ++ [(len : Int), (cap : Int)]).getD i 0 := hρ.2.2
  have ho : ownOf ρ' = dsOf ns := by
    rw [← own_ns hlen [(len : Int), (cap : Int)] (namesD (dsOf ns) A len) (A := A)]
    unfold ownOf
    simp only [h _ (show 0 < 13 by decide), h _ (show 1 < 13 by decide), h _ (show 2 < 13 by decide), h _ (show 3 < 13 by decide), h _ (show 4 < 13 by decide), h _ (show 5 < 13 by decide), h _ (show 6 < 13 by decide), h _ (show 7 < 13 by decide), h _ (show 8 < 13 by decide), h _ (show 9 < 13 by decide), h _ (show 10 < 13 by decide), envA]
  refine ⟨by rw [ho]; exact hρ.1, hρ.2.1, ?_, ho⟩
  rw [h 11 (by decide), ← hlen]
  simp
theorem decA_calls (ht : TabsIn tabsT w) (h : ArrIn w portLk b off len cap A) (h8 : len ≤ 8) (hns : phFits decSh ns) (hlen : ns.length = 11) :
    Calls Tryd.prog 4 #[dsV (dsOf ns), .slice (some ⟨b, off, none⟩) len cap] w fun e w' => ∃ β' : Bm, e = .returned (.tuple #[.slice (some ⟨(β' 4).1, 0, none⟩) len len, .int .i64 0]) ∧
      (Bx.cells (codesS len) 3 0).lies (envA (namesD (dsOf ns) A len) (ns ++ [(len : Int), (cap : Int)]) A) β' (β' 4) w' ∧ w.heap.size ≤ (β' 4).1 ∧ Below w.heap.size w w' := by
  obtain ⟨t1, t2⟩ := decA_all h.pos h8
  have hup : SV.uptos (phSize decSh + 2) (codesS len) = true := range_upto _ _ (fun _ => rfl) _
  have hv : (ns ++ [(len : Int), (cap : Int)]).getD 11 0 = len := by rw [← hlen]; simp
  have hr := fn_arr_new (hs := decSh) (ns := ns) (p := lenIs len) (rk := 2) (rs0 := []) (cuts := [decCA len]) (want := decWA len) (k := 4) (ty := 3) (tl := 0) (cs := codesS len) (call := callC) (keep := noKeep 4) (fuel := 80) tabsT tabsT_nd ht mixed (namesD (dsOf ns) A len) Tryd.func4 decA_body rfl h hns hlen
    (by rw [lenIs, fsOk_cons, fsOk_nil, eq0_ev, litN_ev]; exact ⟨⟨fun _ => rfl, fun _ => hv⟩, trivial⟩) rfl hup
    (fun ρ' hρ => callC_ok (n := len) (own := ownOf ρ') (by obtain ⟨q1, q2, _⟩ := dec_env hlen hρ; rw [q1, q2]) ht)
    (fun ρ' hρ c hc t htm r hr => by
      obtain rfl : c = decCA len := by simpa using hc
      obtain ⟨i, hi, rfl⟩ := List.mem_map.1 (show t ∈ (List.range (len + 1)).map (decTA len) from htm)
      obtain ⟨q1, q2, q3, _⟩ := dec_env hlen hρ
      exact decRules_ok q1 q2 q3 i r hr)
    (fun c hc t htm => by
      obtain rfl : c = decCA len := by simpa using hc
      obtain ⟨i, hi, rfl⟩ := List.mem_map.1 (show t ∈ (List.range (len + 1)).map (decTA len) from htm)
      exact ⟨.leaf, fun g => CT.mk0 (upTo_spec (t2 g) (by have := List.mem_range.1 hi; omega))⟩)
    (fun r hr => by cases hr) t1
  exact hr
end

/-! ### At a call -/
def ownS : SV := .agg (dsVs dsLk ownE)
def litNat (e : E) : Option Nat :=
  match e with
  | .lit (.ofNat m) => some m
  | _ => none
def portsAt (l : Nat) : SV := .inp 2 12 0 (.var l) (.var l) (.var (l + 1))
def isPorts (l : Nat) (hp : Hp) : Bool :=
  match hp.at 2 with
  | some ⟨_, .arr 0 ks l0⟩ => lksEq ks portLk && l0.beq (.var l)
  | _ => false
/-- Variable l is the number of ports. -/
def spDecide (l : Nat) : Spc := fun f args hp fs =>
  if f = 4 ∧ SV.fitL fs (fun i => .var i) id hp.n [ownS, portsAt l] args = true ∧ isPorts l hp = true then
    match litNat (canon fs (.var l)) with
    | some m => if 1 ≤ m ∧ m ≤ 8 then
        some ⟨.tuple [.slice hp.n 0 m (some m), .int .i64 (.lit 0)], hp.push ⟨true, .cells (codesS m) 3 0⟩, fs⟩
      else none
    | none => none
  else none
section
variable {ρ : Env} {w0 : World} {gl : Gl}
theorem codes_ev {ρ' : Env} (h : ρ.fn = ρ'.fn) (β β' : Bm) : ∀ l : List Nat, SV.evs ρ β (l.map fun j => .int .i64 (codeE j)) = SV.evs ρ' β' (l.map fun j => .int .i64 (codeE j))
  | [] => rfl
  | j :: l => by
    simp only [List.map_cons, SV.evs, SV.ev, codes_ev h β β' l]
    have : (codeE j).ev ρ = (codeE j).ev ρ' := by show ρ.fn 11 0 _ = ρ'.fn 11 0 _; rw [h]; rfl
    rw [this]
theorem codes_ok {own : DS} {A : Nat → Nat → Int → Int} {n : Nat} (hf : ρ.fn = namesD own A n) (k : Nat) : ∀ l : List Nat, SV.oks ρ k (l.map fun j => .int .i64 (codeE j))
  | [] => trivial
  | j :: l => by
    refine ⟨?_, codes_ok hf k l⟩
    show (Lit.int .i64 ((codeE j).ev ρ)).wf = true
    rw [codeE_ev hf]
    have := DcLaw.code_rng (own := own) (has := hasA A) (set := setA A) (n := n) j
    exact (wf_iff .i64 _).2 (by
      have i1 : IntKind.i64.min = -9223372036854775808 := by decide
      have i2 : IntKind.i64.max = 9223372036854775807 := by decide
      rw [i1, i2]; omega)
theorem push_new {β β' : Bm} {hp : Hp} {w w' : World} {k ty tl : Nat} {cs : List SV} {ρ' : Env} (hh : Heap ρ w0 (fun _ => False) β hp w) (hb : Below w.heap.size w w') (hk : w.heap.size ≤ (β' k).1) (hev : ∀ β β', SV.evs ρ β cs = SV.evs ρ' β' cs) (hok : SV.oks ρ (hp.n + 1) cs) (hl : (Bx.cells cs ty tl).lies ρ' β' (β' k) w') :
    Heap ρ w0 (fun _ => False) (upd β hp.n (β' k)) (hp.push ⟨true, .cells cs ty tl⟩) w' := by
  refine (hh.below hb).push (fun j b' hj hv e => ?_) (.inr (Nat.le_trans hh.kept.size hk)) hok ?_
  · have := Bx.lies_lt (hh.lies j b' hj) hv
    omega
  · cases tl with
    | zero => simp only [Bx.lies] at *; rw [hev _ β']; exact hl
    | succ s => simp only [Bx.lies] at *; rw [hev _ β']; exact hl
theorem spDecide_ok {l : Nat} (hf : ρ.fn = namesD (ownOf ρ) ρ.arr (ρ.v l).toNat) (ht : TabsIn tabsT w0) : SpecOk Tryd.prog ρ w0 (fun _ => False) gl (spDecide l) := fun f args hp fs o h β w hh hfs ha hg => by
  unfold spDecide at h
  split at h
  · rename_i hc
    obtain ⟨c1, c2, c3⟩ := hc
    split at h
    · rename_i m hm
      split at h
      · rename_i hm8
        -- the arguments
        obtain ⟨f1, f2⟩ := SV.fitL_spec (β := β) (m := hp.n) hfs _ _ c2
        rw [envSub_var] at f1 f2
        have ha' := f2 ha
        have hv11 : ρ.v l = m := by
          have h1 := canon_ev (ρ := ρ) (fs := fs) hfs (.var l)
          unfold litNat at hm
          split at hm
          · rename_i q hq
            obtain rfl := Option.some.inj hm
            rw [hq] at h1
            exact h1.symm
          · cases hm
        obtain ⟨a1, a2, _⟩ := ha'
        obtain ⟨b1, b2, b3, b4, b5⟩ := a2
        have h3 : ρ.v l ≤ 9223372036854775807 := by
          have i2 : IntKind.i64.max = 9223372036854775807 := by decide
          have := ((wf_iff .i64 _).1 b2).2
          rw [i2] at this
          exact this
        unfold isPorts at c3
        split at c3
        · rename_i r ks l0 hk
          simp only [Bool.and_eq_true] at c3
          obtain rfl := lksEq_spec c3.1
          obtain rfl := E.beq_eq _ _ c3.2
          have hA := ArrIn.of_heap hh hk rfl (len := .var l) (cap := .var (l + 1)) (by rw [var_ev, hv11]; omega) b4 h3
          rw [var_ev, hv11, Int.toNat_natCast] at hA
          have hfits : phFits decSh [ρ.v 0, ρ.v 1, ρ.v 2, ρ.v 3, ρ.v 4, ρ.v 5, ρ.v 6, ρ.v 7, ρ.v 8, ρ.v 9, ρ.v 10] := by
            obtain ⟨d0, d1, d2, d3, d4, d5, d6, d7, d8, d9, d10, _⟩ := a1
            exact ⟨⟨d0, d1, d2, d3, d4, d5, d6, d7, d8, d9, d10, trivial⟩, trivial⟩
          have hargs : SV.evs ρ β args = [dsV (dsOf [ρ.v 0, ρ.v 1, ρ.v 2, ρ.v 3, ρ.v 4, ρ.v 5, ρ.v 6, ρ.v 7, ρ.v 8, ρ.v 9, ρ.v 10]), .slice (some ⟨(β 2).1, (β 2).2, none⟩) m (ρ.v (l + 1)).toNat] := by
            rw [f1]
            show [SV.ev ρ β ownS, SV.ev ρ β (portsAt l)] = _
            have : SV.ev ρ β (portsAt l) = .slice (some ⟨(β 2).1, (β 2).2, none⟩) m (ρ.v (l + 1)).toNat := by
              simp only [portsAt, SV.ev, var_ev, hv11, Int.toNat_natCast, Nat.add_zero]
            rw [this]
            rfl
          rw [hargs]
          have hfm : ρ.fn = namesD (dsOf [ρ.v 0, ρ.v 1, ρ.v 2, ρ.v 3, ρ.v 4, ρ.v 5, ρ.v 6, ρ.v 7, ρ.v 8, ρ.v 9, ρ.v 10]) ρ.arr m := by
            rw [hf, hv11, Int.toNat_natCast]
            rfl
          subst c1
          obtain rfl := Option.some.inj h
          refine (decA_calls (TabsIn.kept ht hh.kept) hA hm8.2 hfits rfl).mono fun e w' ⟨β', he, hl, hs, hb⟩ => ?_
          refine ⟨upd β hp.n (β' 4), upd_ext _ _ _, by simp, Stay.push _ _, push_new hh hb hs (fun β β'' => codes_ev hfm β β'' _) (codes_ok hfm _ _) hl, hfs, ⟨by show hp.n < _; simp, rfl, trivial⟩, ?_⟩
          rw [he]
          show Ending.returned (.tuple #[.slice (some ⟨(β' 4).1, 0, none⟩) m m, .int .i64 0]) = Ending.returned (.tuple #[.slice (some ⟨(upd β hp.n (β' 4) hp.n).1, 0, none⟩) m m, .int .i64 0])
          rw [upd_same]
        · cases c3
      · cases h
    · cases h
  · cases h
end
def spD (l : Nat) : Spc := orSpec (spDecide l) spC
theorem spD_ok {l : Nat} {ρ : Env} {w0 : World} {gl : Gl} (hf : ρ.fn = namesD (ownOf ρ) ρ.arr (ρ.v l).toNat) (ht : TabsIn tabsT w0) : SpecOk Tryd.prog ρ w0 (fun _ => False) gl (spD l) :=
  orSpec_ok (spDecide_ok hf ht) (orSpec_ok (spLeast_ok hf ht) (sumSpec_ok (sumsL_ok ρ (by rw [hf]; rfl) ht)))
end Go.Proofs.YtedeecnibmgobaaDoor
