/- The decision: the plain law and the templates. -/
import Derived.Test.YtfcpmapfhgibpaaGreatDoorWj
import Derived.Test.YtfcpmapfhgibpaaGreatDoorWb
import Derived.Test.YtfcpmapfhgibpaaGreatDoorWk
import Derived.Test.YtfcpmapfhgibpaaGreatDoorWf
set_option linter.unusedVariables false
set_option linter.unusedSimpArgs false
set_option maxRecDepth 1000000
namespace Go.Proofs.YtfcpmapfhgibpaaGreatDoor
noncomputable section
section
namespace DcLaw
open DsLaw (lt lt_irrefl lt_trans lt_asymm lt_total not_lt_trans)
def least (has : Nat -> Bool) (set : Nat -> DS) : Nat -> Int
 | 0 => -1
 | k + 1 => if has k = true /\ (least has set k < 0 \/ lt (set k) (set (least has set k).toNat)) then (k : Int) else least has set k
def further (b own : DS) (num : Int) (heard : DS) : DS := ⟨b.p1, b.cls, b.acc, b.vr, b.p2, b.gm, if b.steps < 4611686018427387904 then b.steps + 1 else b.steps, own.snd, num, heard.rcv, num⟩
def code (own : DS) (has : Nat -> Bool) (set : Nat -> DS) (n i : Nat) : Int :=
 if own.cls <= 127 then (if has i = false \/ lt own (set i) then 1 else 4)
 else if least has set n < 0 \/ lt own (set (least has set n).toNat) then 2
 else if (i : Int) = least has set n then 6
 else if has i = false \/ lt (further (set (least has set n).toNat) own (i + 1) (set i)) (set i) then 3
 else 5
def better (own : DS) (has : Nat -> Bool) (set : Nat -> DS) : Nat -> Bool
 | 0 => false
 | k + 1 => better own has set k || (has k && decide (lt (set k) own))
def equal (own : DS) (has : Nat -> Bool) (set : Nat -> DS) : Nat -> Bool
 | 0 => false
 | k + 1 => equal own has set k || (has k && !decide (lt own (set k)))
section
variable {has : Nat -> Bool} {set : Nat -> DS} {own : DS} {n : Nat}
theorem better_iff : ∀ {k : Nat}, better own has set k = true ↔ ∃ j, j < k /\ has j = true /\ lt (set j) own
 | 0 => ⟨fun h => Bool.noConfusion h, fun ⟨j, h, _⟩ => absurd h (Nat.not_lt_zero j)⟩
 | k + 1 => by
  simp only [better, bOr, bAnd, dEq, better_iff (k := k)]; constructor
  ·rintro (⟨j, h1, h2⟩ | h)
   ·exact ⟨j, by omega, h2⟩
   ·exact ⟨k, by omega, h⟩
  ·rintro ⟨j, h1, h2⟩
   by_cases h : j = k
   ·subst h; exact .inr h2
   ·exact .inl ⟨j, by omega, h2⟩
theorem least_rng : ∀ k : Nat, -1 <= least has set k /\ least has set k < k
 | 0 => by simp [least]
 | k + 1 => by
  have := least_rng k; unfold least; split <;> omega
theorem least_none : ∀ {k : Nat}, least has set k < 0 -> ∀ j, j < k -> has j = false
 | 0, _, j, h => by omega
 | k + 1, h, j, hj => by
  unfold least at h; split at h
  ·omega
  ·rename_i hc
   have ih := least_none h
   by_cases he : j = k
   ·subst he
    cases hh : has j with
    | false => rfl
    | true => exact absurd ⟨hh, .inl h⟩ hc
   ·exact ih j (by omega)
theorem least_spec : ∀ {k : Nat}, 0 <= least has set k -> has (least has set k).toNat = true /\ ∀ j, j < k -> has j = true -> ¬ lt (set j) (set (least has set k).toNat)
 | 0, h => by simp [least] at h
 | k + 1, h => by
  by_cases hc : has k = true /\ (least has set k < 0 \/ lt (set k) (set (least has set k).toNat))
  ·have e : least has set (k + 1) = k := by show (if _ then _ else _) = _; rw [if_pos hc]
   rw [e, Int.toNat_natCast]; refine ⟨hc.1, fun j hj hh => ?_⟩
   by_cases he : j = k
   ·subst he; exact lt_irrefl _
   ·rcases hc.2 with h1 | h1
    ·rw [least_none (has := has) (set := set) h1 j (by omega)] at hh; cases hh
    ·by_cases h0 : 0 <= least has set k
     ·have h2 := (least_spec h0).2 j (by omega) hh
      exact fun h3 => h2 (lt_trans h3 h1)
     ·rw [least_none (has := has) (set := set) (k := k) (by omega) j (by omega)] at hh; cases hh
  ·have e : least has set (k + 1) = least has set k := by show (if _ then _ else _) = _; rw [if_neg hc]
   rw [e] at h ⊢; have ih := least_spec h; refine ⟨ih.1, fun j hj hh => ?_⟩
   by_cases he : j = k
   ·subst he
    exact fun h3 => hc ⟨hh, .inr h3⟩
   ·exact ih.2 j (by omega) hh
theorem code_rng (i : Nat) : 1 <= code own has set n i /\ code own has set n i <= 6 := by
 unfold code
 repeat' split
 all_goals omega
theorem code_six {i : Nat} (h : code own has set n i = 6) : 127 < own.cls /\ (i : Int) = least has set n /\ ¬ lt own (set i) := by
 unfold code at h; split at h
 ·split at h <;> omega
 ·split at h
  ·omega
  ·rename_i h1 h2
   split at h
   ·rename_i h3
    refine ⟨by omega, h3, fun h4 => h2 (.inr ?_)⟩
    rw [<- h3, Int.toNat_natCast]; exact h4
   ·split at h <;> omega
theorem six_least {i j : Nat} (h : code own has set n i = 6) (hi : i < n) (hj : j < n) : has i = true /\ (has j = true -> ¬ lt (set j) (set i)) /\ ¬ lt own (set i) /\ (j ≠ i -> code own has set n j ≠ 6) := by
 obtain ⟨h1, h2, h3⟩ := code_six h; have h4 := least_spec (has := has) (set := set) (k := n) (by omega)
 rw [<- h2, Int.toNat_natCast] at h4; exact ⟨h4.1, h4.2 j hj, h3, fun hne h5 => hne (by have := (code_six h5).2.1; omega)⟩
end
end DcLaw
end
section
open Go Frm Frn
namespace DcLaw
open DsLaw (lt)
section
variable {has has' : Nat -> Bool} {set set' : Nat -> DS} {own : DS} {n : Nat}
theorem least_congr : ∀ {k : Nat}, (∀ i, i < k -> has i = has' i /\ set i = set' i) -> least has set k = least has' set' k
 | 0, _ => rfl
 | k + 1, h => by
  have ih := least_congr (k := k) fun i hi => h i (by omega)
  obtain ⟨h1, h2⟩ := h k (by omega)
  have hr := least_rng (has := has') (set := set') k; unfold least; rw [ih, h1, h2]
  by_cases c : least has' set' k < 0
  ·simp only [c, true_or]
  ·have h3 := (h (least has' set' k).toNat (by omega)).2
   rw [h3]
theorem code_congr {i : Nat} (hi : i < n) (h : ∀ i, i < n -> has i = has' i /\ set i = set' i) : code own has set n i = code own has' set' n i := by
 have hl := least_congr h; obtain ⟨h1, h2⟩ := h i hi; have hr := least_rng (has := has') (set := set') n; unfold code; rw [hl, h1, h2]
 by_cases c : least has' set' n < 0
 ·simp only [c, true_or, if_true]
 ·have h3 := (h (least has' set' n).toNat (by omega)).2
  rw [h3]
end
end DcLaw
def hasX (xs : List Int) (t : Int) (i : Nat) : Bool := decide (qual (dec (xs.getD i 0)) t ≠ [])
def bstX (xs : List Int) (t : Int) (i : Nat) : List Int := bestD (qual (dec (xs.getD i 0)) t)
def setX (xs : List Int) (t : Int) (i : Nat) : DS := dsOf (bstX xs t i)
def codeX (q : List Int) (t : Int) (xs : List Int) (i : Nat) : Int := DcLaw.code (dsOf (ownL q)) (hasX xs t) (setX xs t) xs.length i
def slaveX (q : List Int) (t : Int) (xs : List Int) : Option Nat := (List.range xs.length).find? fun i => decide (codeX q t xs i = 6)
def mastX (q : List Int) (t : Int) (xs : List Int) : List Int := match slaveX q t xs with
 | some i => bstX xs t i
 | none => ownL q
theorem codeX_rng (q : List Int) (t : Int) (xs : List Int) (i : Nat) : 1 <= codeX q t xs i /\ codeX q t xs i <= 6 := DcLaw.code_rng i
theorem codeX_two {q : List Int} {t : Int} {xs : List Int} {i j : Nat} (hi : i < xs.length) (hj : j < xs.length) (hij : j ≠ i) (h : codeX q t xs i = 6) : codeX q t xs j ≠ 6 :=
 (DcLaw.six_least h hi hj).2.2.2 hij
def WellS (s : FS) (id : Int) : Prop := ∀ r ∈ s.l, r ≠ [] /\ ∀ m ∈ r, WellD m.d id
theorem bestI_mem (less : Nat -> Nat -> Bool) : ∀ (l : List Nat) (b : Nat), bestI less b l = b \/ bestI less b l ∈ l
 | [], b => .inl rfl
 | i :: l, b => by
  unfold bestI; rcases bestI_mem less l (if less i b = true then i else b) with h | h
  ·rw [h]
   split
   ·exact .inr (lHd ..)
   ·exact .inl rfl
  ·exact .inr (lTl _ h)
theorem bestD_mem {q : List (List Int)} (h : q ≠ []) : bestD q ∈ q := by
 unfold bestD; rw [if_neg h]; have hl : 0 < q.length := List.length_pos_iff.2 h
 have hk : bestK q < q.length := by
  unfold bestK; rcases bestI_mem (fun i b => ltB (q.getD i []) (q.getD b [])) (List.range' 1 (q.length - 1)) 0 with e | e
  ·rw [e]; exact hl
  ·have := List.mem_range'.1 e
   omega
 rw [gDe, lGe hk]; exact List.getElem_mem hk
theorem lastM_mem {r : List Msg} (h : r ≠ []) : lastM r ∈ r := by
 unfold lastM; rw [List.getLastD_eq_getLast?, List.getLast?_eq_some_getLast h]; exact List.getLast_mem h
theorem qual_well {s : FS} {id t : Int} (h : WellS s id) : ∀ d ∈ qual s t, WellD d id := fun d hd => by
 unfold qual quals at hd; obtain ⟨r, hr, rfl⟩ := List.mem_map.1 hd; have hr := (List.mem_filter.1 hr).1; exact (h r hr).2 _ (lastM_mem (h r hr).1)
theorem forget_well {s : FS} {id t : Int} (h : WellS s id) : WellS (forget s t) id := fun r hr => h r (List.mem_filter.1 hr).1
theorem keep8_mem {r : List Msg} {m : Msg} (h : m ∈ keep8 r) : m ∈ r := by
 unfold keep8 at h; split at h
 ·exact List.mem_of_mem_tail h
 ·exact h
theorem keep8_ne {r : List Msg} {m : Msg} : keep8 (r ++ [m]) ≠ [] := fun h => by
 have h1 : (keep8 (r ++ [m])).length = 0 := by rw [h]; rfl
 unfold keep8 at h1; split at h1
 ·rename_i h2
  rw [List.length_tail] at h1; omega
 ·simp at h1
theorem hear_well {s : FS} {d : List Int} {id t : Int} (h : WellS s id) (hd : WellD d id) : WellS (hear s d t) id := fun r hr => by
 unfold hear at hr; split at hr
 ·unfold Frm.put at hr
  simp only at hr; split at hr
  ·rename_i i hi
   rcases List.mem_or_eq_of_mem_set hr with hr | rfl
   ·exact h r hr
   ·refine ⟨keep8_ne, fun m hm => ?_⟩
    rcases List.mem_append.1 (keep8_mem hm) with hm | hm
    ·by_cases hl : i < s.l.length
     ·rw [gDe, lGe hl] at hm
      exact (h _ (List.getElem_mem hl)).2 m hm
     ·rw [gDe, lNo (by omega)] at hm
      cases hm
    ·obtain rfl : m = ⟨d, t⟩ := by simpa using hm
     exact hd
  ·rcases List.mem_append.1 hr with hr | hr
   ·have hr : r ∈ s.l := by
     split at hr
     ·exact List.mem_of_mem_eraseIdx hr
     ·exact hr
    exact h r hr
   ·obtain rfl : r = [⟨d, t⟩] := by simpa using hr
    refine ⟨by simp, fun m hm => ?_⟩
    obtain rfl : m = ⟨d, t⟩ := by simpa using hm
    exact hd
 ·exact h r hr
theorem wellN_iff {x id : Int} : wellN x id = 1 ↔ WellS (dec x) id := by
 unfold wellN; split
 ·rename_i h; exact ⟨fun _ => h, fun _ => rfl⟩
 ·rename_i h; exact ⟨fun e => absurd e (by decide), fun e => absurd e h⟩
theorem followN_iff {q d : List Int} : followN q d = 1 ↔ d = ownL q \/ (WellD d (q.getD 0 0) /\ ltB (ownL q) d = false) := by
 unfold followN; split
 ·rename_i h; exact ⟨fun _ => h, fun _ => rfl⟩
 ·rename_i h; exact ⟨fun e => absurd e (by decide), fun e => absurd e h⟩
theorem mastX_ok {q : List Int} {t : Int} {xs : List Int} (h : ∀ i, i < xs.length -> WellS (dec (xs.getD i 0)) (q.getD 0 0)) : followN q (mastX q t xs) = 1 := by
 rw [followN_iff]; unfold mastX; split
 ·rename_i i hi
  have h1 := List.find?_some hi; have h2 := mRa.1 (List.mem_of_find?_eq_some hi); rw [dEq] at h1; obtain ⟨a1, _, a3, _⟩ := DcLaw.six_least h1 h2 h2; refine .inr ⟨qual_well (h i h2) _ (bestD_mem (of_decide_eq_true a1)), ?_⟩; unfold ltB; exact decide_eq_false a3
 ·exact .inl rfl
end
namespace Dcd
open Go Go.ChangeShapes Go.WideShapes Go.ChangeAt Go.RowKit SX
open DsLaw (I64 U64 lt)
def dsLk : List Lk := [.int .i64, .int .i64, .int .i64, .int .i64, .int .i64, .int .u64, .int .i64, .int .u64, .int .i64, .int .u64, .int .i64]
def dsSh : Sh := .agg dsLk
def portLk : List Lk := .bool :: dsLk
def dsOf (l : List Int) : DS := ⟨l.headD 0, l.tail.headD 0, l.tail.tail.headD 0, l.tail.tail.tail.headD 0, l.tail.tail.tail.tail.headD 0, l.tail.tail.tail.tail.tail.headD 0, l.tail.tail.tail.tail.tail.tail.headD 0, l.tail.tail.tail.tail.tail.tail.tail.headD 0, l.tail.tail.tail.tail.tail.tail.tail.tail.headD 0, l.tail.tail.tail.tail.tail.tail.tail.tail.tail.headD 0, l.tail.tail.tail.tail.tail.tail.tail.tail.tail.tail.headD 0⟩
def dsV (d : DS) : Value := (.agg #[.int .i64 d.p1, .int .i64 d.cls, .int .i64 d.acc, .int .i64 d.vr, .int .i64 d.p2, .int .u64 d.gm, .int .i64 d.steps, .int .u64 d.snd, .int .i64 d.sp, .int .u64 d.rcv, .int .i64 d.rp])
theorem wfI {n : Int} (h : (Lit.int .i64 n).wf = true) : I64 n := by
 have := (wf_iff .i64 n).1 h; unfold I64
 simpa [IntKind.min, IntKind.max, IntKind.bits, IntKind.signed] using this
theorem wfU {n : Int} (h : (Lit.int .u64 n).wf = true) : U64 n := by
 have := (wf_iff .u64 n).1 h; unfold U64
 simpa [IntKind.min, IntKind.max, IntKind.bits, IntKind.signed] using this
theorem ok_ds {l : List Int} (h : dsSh.fits l) : DsLaw.Ok (dsOf l) := by
 obtain ⟨h0, h1, h2, h3, h4, h5, h6, h7, h8, h9, h10, _⟩ := h; exact ⟨wfI h0, wfI h1, wfI h2, wfI h3, wfI h4, wfU h5, wfI h6, wfU h7, wfI h8, wfU h9, wfI h10⟩
theorem fields_tabs {w : World} (h : TabsIn tabsT w) : Fields w := by
 intro i hi
 have hc : cellsF[i]? = some (.int .i64 (DsLaw.F i : Nat)) := by
  match i, hi with
  | 0, _ => rfl | 1, _ => rfl | 2, _ => rfl | 3, _ => rfl | 4, _ => rfl | 5, _ => rfl | 6, _ => rfl | 7, _ => rfl | 8, _ => rfl | 9, _ => rfl | 10, _ => rfl | 11, _ => rfl | 12, _ => rfl | 13, _ => rfl
  | n + 14, h => exact absurd h (by omega)
 exact h _ (lHd ..) i _ hc
def lessA : Sm := ⟨89, 3, [dsSh, dsSh], [.one .bool]⟩
def lessB : Sm := ⟨97, 3, [dsSh, dsSh], [.one .bool]⟩
def lessN (_ : Nat) (ns : List Int) : Int := if lt (dsOf ns) (dsOf (ns.drop 11)) then 1 else 0
theorem lessA_ok (ρ : Env) (h : ρ.fn 3 = lessN) {w : World} (ht : TabsIn tabsT w) : SmOk Tryz.prog ρ w (fun _ => False) lessA := fun ns hns => by
 refine ⟨⟨trivial, trivial⟩, fun w' hk => ?_⟩
 have hc := less_any (dsOf ns) (dsOf (ns.drop 11)) (ok_ds hns.1) (ok_ds hns.2.1) w' (fields_tabs (TabsIn.kept ht hk))
 have hv : packV (shVals lessA.rs (fnVals (ρ.fn lessA.name) ns (shSize lessA.rs) 0)) = .bool (decide (lt (dsOf ns) (dsOf (ns.drop 11)))) := by
  show Value.bool (decide (ρ.fn 3 0 ns ≠ 0)) = _; rw [h]; unfold lessN; split <;> simp_all
 rw [hv]; exact hc
theorem lessB_ok (ρ : Env) (h : ρ.fn 3 = lessN) {w : World} : SmOk Tryz.prog ρ w (fun _ => False) lessB := fun ns hns => by
 refine ⟨⟨trivial, trivial⟩, fun w' hk => ?_⟩
 have hc := r_less_any (dsOf ns) (dsOf (ns.drop 11)) w'
 have hv : packV (shVals lessB.rs (fnVals (ρ.fn lessB.name) ns (shSize lessB.rs) 0)) = .bool (decide (lt (dsOf ns) (dsOf (ns.drop 11)))) := by
  show Value.bool (decide (ρ.fn 3 0 ns ≠ 0)) = _; rw [h]; unfold lessN; split <;> simp_all
 rw [hv]; exact hc
def sumsL : Sums := sumsOf [lessA, lessB]
theorem sumsL_ok (ρ : Env) (h : ρ.fn 3 = lessN) {w : World} (ht : TabsIn tabsT w) : SumsOk Tryz.prog ρ w (fun _ => False) sumsL :=
 sumsOf_ok fun s hs => by
  simp only [mCo, List.not_mem_nil, or_false] at hs; rcases hs with rfl | rfl
  ·exact lessA_ok ρ h ht
  ·exact lessB_ok ρ h
def rdA (A : Nat -> Nat -> Int -> Int) (c : Nat) (i : Int) : Int := (kOf c).wrap (A 0 c i)
def hasA (A : Nat -> Nat -> Int -> Int) (i : Nat) : Bool := decide (rdA A 3 i ≠ 0)
def setA (A : Nat -> Nat -> Int -> Int) (i : Nat) : DS := ⟨rdA A 11 i, rdA A 19 i, rdA A 27 i, rdA A 35 i, rdA A 43 i, rdA A 55 i, rdA A 59 i, rdA A 71 i, rdA A 75 i, rdA A 87 i, rdA A 91 i⟩
def namesD (own : DS) (A : Nat -> Nat -> Int -> Int) (n : Nat) : Mng := fun f =>
 if f = 3 then lessN else if f = 10 then fun _ ns => DcLaw.least (hasA A) (setA A) (ns.headD 0).toNat
 else if f = 11 then fun _ ns => DcLaw.code own (hasA A) (setA A) n (ns.headD 0).toNat
 else if f = 12 then fun _ ns => if DcLaw.better own (hasA A) (setA A) (ns.headD 0).toNat = true then 1 else 0
 else if f = 13 then fun _ ns => if DcLaw.equal own (hasA A) (setA A) (ns.headD 0).toNat = true then 1 else 0
 else fun _ _ => 0
def lt0 (a b : E) : E := .bin .lt .i64 a b
def eq0 (a b : E) : E := .bin .eq .i64 a b
def litN (n : Nat) : E := .lit (Int.ofNat n)
def hasE (i : E) : E := .rd 0 3 i
def setE (i : E) : List E := [.rd 0 11 i, .rd 0 19 i, .rd 0 27 i, .rd 0 35 i, .rd 0 43 i, .rd 0 55 i, .rd 0 59 i, .rd 0 71 i, .rd 0 75 i, .rd 0 87 i, .rd 0 91 i]
def lessE (a b : List E) : E := .app 3 0 (a ++ b)
def leastE (k : E) : E := .app 10 0 [k]
def codeE (i : Nat) : E := .app 11 0 [litN i]
section
variable {ρ : Env} {own : DS} {A : Nat -> Nat -> Int -> Int} {n : Nat}
theorem fsOk_nil : FsOk ρ [] ↔ True := ⟨fun _ => trivial, fun _ p hp => by cases hp⟩
theorem fsOk_cons {c : E} {b : Bool} {l : Fs} : FsOk ρ ((c, b) :: l) ↔ (c.ev ρ ≠ 0 ↔ b = true) /\ FsOk ρ l :=
 ⟨fun h => ⟨h (c, b) (lHd ..), fun p hp => h p (lTl _ hp)⟩, fun h p hp => by
  rcases mCo.1 hp with rfl | hp
  ·exact h.1
  ·exact h.2 p hp⟩
theorem lt0_ev (a b : E) : (lt0 a b).ev ρ ≠ 0 ↔ a.ev ρ < b.ev ρ := by
 show (if a.ev ρ < b.ev ρ then (1 : Int) else 0) ≠ 0 ↔ _
 split <;> simp [*]
theorem eq0_ev (a b : E) : (eq0 a b).ev ρ ≠ 0 ↔ a.ev ρ = b.ev ρ := by
 show (if a.ev ρ = b.ev ρ then (1 : Int) else 0) ≠ 0 ↔ _
 split <;> simp [*]
theorem litN_ev (k : Nat) : (litN k).ev ρ = k := rfl
theorem lit_ev (k : Int) : (E.lit k).ev ρ = k := rfl
theorem var_ev (k : Nat) : (E.var k).ev ρ = ρ.v k := rfl
theorem rd_ev (hA : ρ.arr = A) (c : Nat) (i : E) : (E.rd 0 c i).ev ρ = rdA A c (i.ev ρ) := by subst hA; rfl
theorem hasE_ev (hA : ρ.arr = A) {i : E} {k : Nat} (hk : i.ev ρ = k) : (hasE i).ev ρ ≠ 0 ↔ hasA A k = true := by
 unfold hasE hasA; rw [rd_ev hA, hk]; simp
theorem setE_ev (hA : ρ.arr = A) {i : E} {k : Nat} (hk : i.ev ρ = k) (l : List Int) : dsOf (E.evs ρ (setE i) ++ l) = setA A k := by
 simp only [setE, E.evs, rd_ev hA, hk, List.cons_append, List.nil_append, dsOf, List.headD_cons, List.tail_cons, setA]
theorem lessE_ev (hf : ρ.fn = namesD own A n) {a b : List E} {x y : DS} (hx : ∀ l, dsOf (E.evs ρ a ++ l) = x) (hy : ∀ l, dsOf (E.evs ρ b ++ l) = y) (ha : a.length = 11) : (lessE a b).ev ρ ≠ 0 ↔ lt x y := by
 show ρ.fn 3 0 (E.evs ρ (a ++ b)) ≠ 0 ↔ _; rw [hf]; show (if lt (dsOf (E.evs ρ (a ++ b))) (dsOf ((E.evs ρ (a ++ b)).drop 11)) then (1 : Int) else 0) ≠ 0 ↔ _
 rw [evs_app, hx, List.drop_append_of_le_length (by rw [evs_len, ha]; omega), List.drop_of_length_le (by rw [evs_len, ha]; omega), List.nil_append]
 have := hy []; rw [List.append_nil] at this; rw [this]; split <;> simp [*]
theorem leastE_ev (hf : ρ.fn = namesD own A n) {k : E} {m : Nat} (hk : k.ev ρ = m) : (leastE k).ev ρ = DcLaw.least (hasA A) (setA A) m := by
 show ρ.fn 10 0 [k.ev ρ] = _; rw [hf, hk]; rfl
theorem codeE_ev (hf : ρ.fn = namesD own A n) (i : Nat) : (codeE i).ev ρ = DcLaw.code own (hasA A) (setA A) n i := by
 show ρ.fn 11 0 [Int.ofNat i] = _; rw [hf]; rfl
end
end Dcd
namespace Dcd
open Go Go.RowKit SX
open DsLaw (lt)
def callL : Caller := callG Tryz.prog (tabGl tabsT 0) okF (sumSpec sumsL) noKeep 80 30
def lI : E := .bin .zadd .i64 (.var 0) (.bin .zmul .i64 (.lit (-1)) (.var 2))
def lI1 : E := .bin .zadd .i64 lI (.lit 1)
def portsL : SV := .inp 1 12 0 (.var 0) (.var 0) (.var 1)
def tabBx : Box := ⟨false, .ro (cellsF.map ofLeaf)⟩
def leastFacts : Fs := lenU 0 ++ [(lt0 lI (.lit 0), false), (lt0 (.var 2) (.lit 0), false), (lt0 (leastE lI) (.lit (-1)), false), (lt0 (leastE lI) (.var 0), true)]
def leastTm (sz : Nat) (live : List (Nat × SV)) : Tm := ⟨sz, live, [tabBx, ⟨false, .arr 0 portLk (.var 0)⟩], leastFacts⟩
def leastRules : List Rule :=
 let no : E × Bool := (lt0 lI (.lit 0), false)
 [⟨[no, (hasE lI, false)], [(eq0 (leastE lI1) (leastE lI), true)]⟩,
  ⟨[no, (hasE lI, true), (lt0 (leastE lI) (.lit 0), true)], [(eq0 (leastE lI1) lI, true)]⟩,
  ⟨[no, (hasE lI, true), (lt0 (leastE lI) (.lit 0), false), (lessE (setE lI) (setE (leastE lI)), true)], [(eq0 (leastE lI1) lI, true)]⟩,
  ⟨[no, (hasE lI, true), (lt0 (leastE lI) (.lit 0), false), (lessE (setE lI) (setE (leastE lI)), false)], [(eq0 (leastE lI1) (leastE lI), true)]⟩,
  ⟨[no, (lt0 lI (.var 0), true)], [(lt0 (leastE lI1) (.lit (-1)), false), (lt0 (leastE lI1) (.var 0), true)]⟩]
def leastRules0 : List Rule := [⟨[], [(eq0 (leastE (.lit 0)) (.lit (-1)), true)]⟩]
def leastTA : TmR := ⟨leastTm 32 [(8, .int .i64 lI), (0, portsL), (3, .int .i64 (leastE lI)), (6, portsL), (7, .int .i64 (.var 0))], .var 2, leastRules⟩
def leastTB : TmR := ⟨leastTm 35 [(4, .int .i64 lI), (0, portsL), (3, .int .i64 (leastE lI))], .var 2, leastRules⟩
def leastCA : CutR := ⟨[1, 1, 0, 1, 0], 1, [leastTA]⟩
def leastCB : CutR := ⟨[1, 1, 0, 1, 0], 1, [leastTB]⟩
def leastW : List SV := [.int .i64 (leastE (.var 0))]
def leastCodeA : Code := (Tryz.f87.body).getD .skip
def leastCodeB : Code := (Tryz.f98.body).getD .skip
section
variable {ρ : Env} {own : DS} {A : Nat -> Nat -> Int -> Int} {n : Nat}
theorem leastRules_ok (hf : ρ.fn = namesD own A n) (hA : ρ.arr = A) : ∀ r ∈ leastRules, RuleOk ρ r := by
 have h1 : lI1.ev ρ = lI.ev ρ + 1 := rfl; have key : ∀ {x : Nat}, lI.ev ρ = x -> (leastE lI1).ev ρ = DcLaw.least (hasA A) (setA A) (x + 1) := fun hx => leastE_ev hf (by rw [h1, hx]; rfl)
 have hset : ∀ {x : Nat}, lI.ev ρ = x -> 0 <= (leastE lI).ev ρ -> ((lessE (setE lI) (setE (leastE lI))).ev ρ ≠ 0 ↔ lt (setA A x) (setA A (DcLaw.least (hasA A) (setA A) x).toNat)) := fun {x} hx h0 => by
  have e := leastE_ev hf hx; exact lessE_ev hf (setE_ev hA hx) (setE_ev hA (k := (DcLaw.least (hasA A) (setA A) x).toNat) (by rw [e] at h0 ⊢; omega)) rfl
 intro r hr; simp only [leastRules, mCo, List.not_mem_nil, or_false] at hr; rcases hr with rfl | rfl | rfl | rfl | rfl <;> simp only [RuleOk, fsOk_cons, fsOk_nil, and_true, lt0_ev, eq0_ev, lit_ev, var_ev, iff_true, Bool.false_eq_true, iff_false, Int.not_lt]
 ·rintro ⟨h0, h2⟩
  obtain ⟨x, hx⟩ : ∃ x : Nat, lI.ev ρ = x := ⟨(lI.ev ρ).toNat, by omega⟩
  rw [hasE_ev hA hx] at h2; rw [key hx, leastE_ev hf hx]; show (if _ then _ else _) = _
  rw [if_neg (fun h => h2 h.1)]
 ·rintro ⟨h0, h2, h3⟩
  obtain ⟨x, hx⟩ : ∃ x : Nat, lI.ev ρ = x := ⟨(lI.ev ρ).toNat, by omega⟩
  rw [hasE_ev hA hx] at h2; rw [leastE_ev hf hx] at h3; rw [key hx, hx]; show (if _ then _ else _) = _
  rw [if_pos ⟨h2, .inl h3⟩]
 ·rintro ⟨h0, h2, h3, h4⟩
  obtain ⟨x, hx⟩ : ∃ x : Nat, lI.ev ρ = x := ⟨(lI.ev ρ).toNat, by omega⟩
  rw [hasE_ev hA hx] at h2; rw [hset hx h3] at h4; rw [key hx, hx]; show (if _ then _ else _) = _
  rw [if_pos ⟨h2, .inr h4⟩]
 ·rintro ⟨h0, h2, h3, h4⟩
  obtain ⟨x, hx⟩ : ∃ x : Nat, lI.ev ρ = x := ⟨(lI.ev ρ).toNat, by omega⟩
  rw [hset hx h3] at h4; rw [leastE_ev hf hx] at h3; rw [key hx, leastE_ev hf hx]; show (if _ then _ else _) = _
  rw [if_neg]
  rintro ⟨_, h5 | h5⟩
  ·omega
  ·exact h4 h5
 ·rintro ⟨h0, h2⟩
  obtain ⟨x, hx⟩ : ∃ x : Nat, lI.ev ρ = x := ⟨(lI.ev ρ).toNat, by omega⟩
  have := DcLaw.least_rng (has := hasA A) (set := setA A) (x + 1); rw [key hx]; omega
theorem leastRules0_ok (hf : ρ.fn = namesD own A n) : ∀ r ∈ leastRules0, RuleOk ρ r := by
 intro r hr; simp only [leastRules0, mCo, List.not_mem_nil, or_false] at hr; subst hr; simp only [RuleOk, fsOk_cons, fsOk_nil, and_true, eq0_ev, lit_ev, iff_true]; intro _; rw [leastE_ev hf (m := 0) rfl]; rfl
end
theorem leastA_enter : ((execP Tryz.prog (tabGl tabsT 0) callL (noKeep 87) 80 leastCodeA (entrySt Tryz.f87 (phArgs tabsT.length (phSize [.sl portLk]) none [.sl portLk] 0) (arrHp tabsT (phKs [.sl portLk]) (phSize [.sl portLk])) ([] ++ (lenU (phSize [.sl portLk]) ++ phFacts [.sl portLk] 0)))).all (leafOkR (tabGl tabsT 0) [leastCA] (wantEnd Tryz.prog Tryz.f87 leastW []) (phSize [.sl portLk] + 2) leastRules0 2)) = true := by kernel_rfl
theorem leastA_round (g : Nat -> Value) : roundOkR Tryz.prog (tabGl tabsT 0) callL (noKeep 87) 80 [leastCA] (wantEnd Tryz.prog Tryz.f87 leastW []) (phSize [.sl portLk] + 2) leastCodeA [] leastCA leastTA g = true := by kernel_rfl
theorem leastB_enter : ((execP Tryz.prog (tabGl tabsT 0) callL (noKeep 98) 80 leastCodeB (entrySt Tryz.f98 (phArgs tabsT.length (phSize [.sl portLk]) none [.sl portLk] 0) (arrHp tabsT (phKs [.sl portLk]) (phSize [.sl portLk])) ([] ++ (lenU (phSize [.sl portLk]) ++ phFacts [.sl portLk] 0)))).all (leafOkR (tabGl tabsT 0) [leastCB] (wantEnd Tryz.prog Tryz.f98 leastW []) (phSize [.sl portLk] + 2) leastRules0 2)) = true := by kernel_rfl
theorem leastB_round (g : Nat -> Value) : roundOkR Tryz.prog (tabGl tabsT 0) callL (noKeep 98) 80 [leastCB] (wantEnd Tryz.prog Tryz.f98 leastW []) (phSize [.sl portLk] + 2) leastCodeB [] leastCB leastTB g = true := by kernel_rfl
theorem leastA_body : Tryz.f87.body = some leastCodeA := by kernel_rfl
theorem leastB_body : Tryz.f98.body = some leastCodeB := by kernel_rfl
section
variable {b off len cap : Nat} {A : Nat -> Nat -> Int -> Int} {w : World}
theorem leastA_calls (ht : TabsIn tabsT w) (h : ArrIn w portLk b off len cap A) : Calls Tryz.prog 87 #[.slice (some ⟨b, off, none⟩) len cap] w fun e w' => e = .returned (.int .i64 (DcLaw.least (hasA A) (setA A) len)) /\ Below w.heap.size w w' := by
 have hf : ∀ ρ', SameK (phSize [.sl portLk] + 2) (envA (namesD DsLaw.z A len) ([] ++ [(len : Int), (cap : Int)]) A) ρ' -> ρ'.fn = namesD DsLaw.z A len /\ ρ'.arr = A := fun ρ' hρ => ⟨hρ.1, hρ.2.1⟩
 have hr := fn_arr_val (hs := [.sl portLk]) (ns := []) (p := []) (rk := 2) (rs0 := leastRules0) (cuts := [leastCA]) (want := leastW) (call := callL) (keep := noKeep 87) (fuel := 80) tabsT tabsT_nd ht mixed (namesD DsLaw.z A len) Tryz.func87 leastA_body rfl h trivial rfl (fsOk_nil.2 trivial) rfl rfl
  (fun ρ' hρ => callG_run mixed okF_ok (sumSpec_ok (sumsL_ok ρ' (by rw [(hf ρ' hρ).1]; rfl) ht)) 30)
  (fun ρ' hρ c hc t htm r hr => by
   obtain rfl : c = leastCA := by simpa using hc
   obtain rfl : t = leastTA := by simpa [leastCA] using htm
   exact leastRules_ok (hf ρ' hρ).1 (hf ρ' hρ).2 r hr)
  (fun c hc t htm => by
   obtain rfl : c = leastCA := by simpa using hc
   obtain rfl : t = leastTA := by simpa [leastCA] using htm
   exact ⟨.leaf, fun g => CT.mk0 (leastA_round g)⟩)
  (leastRules0_ok (hf _ (SameK.refl _)).1) leastA_enter
 refine hr.mono fun e w' ⟨he, hb⟩ => ⟨?_, hb⟩
 rw [he]; exact congrArg (fun x => Ending.returned (.int .i64 x)) (leastE_ev rfl rfl)
theorem leastB_calls (ht : TabsIn tabsT w) (h : ArrIn w portLk b off len cap A) : Calls Tryz.prog 98 #[.slice (some ⟨b, off, none⟩) len cap] w fun e w' => e = .returned (.int .i64 (DcLaw.least (hasA A) (setA A) len)) /\ Below w.heap.size w w' := by
 have hf : ∀ ρ', SameK (phSize [.sl portLk] + 2) (envA (namesD DsLaw.z A len) ([] ++ [(len : Int), (cap : Int)]) A) ρ' -> ρ'.fn = namesD DsLaw.z A len /\ ρ'.arr = A := fun ρ' hρ => ⟨hρ.1, hρ.2.1⟩
 have hr := fn_arr_val (hs := [.sl portLk]) (ns := []) (p := []) (rk := 2) (rs0 := leastRules0) (cuts := [leastCB]) (want := leastW) (call := callL) (keep := noKeep 98) (fuel := 80) tabsT tabsT_nd ht mixed (namesD DsLaw.z A len) Tryz.func98 leastB_body rfl h trivial rfl (fsOk_nil.2 trivial) rfl rfl
  (fun ρ' hρ => callG_run mixed okF_ok (sumSpec_ok (sumsL_ok ρ' (by rw [(hf ρ' hρ).1]; rfl) ht)) 30)
  (fun ρ' hρ c hc t htm r hr => by
   obtain rfl : c = leastCB := by simpa using hc
   obtain rfl : t = leastTB := by simpa [leastCB] using htm
   exact leastRules_ok (hf ρ' hρ).1 (hf ρ' hρ).2 r hr)
  (fun c hc t htm => by
   obtain rfl : c = leastCB := by simpa using hc
   obtain rfl : t = leastTB := by simpa [leastCB] using htm
   exact ⟨.leaf, fun g => CT.mk0 (leastB_round g)⟩)
  (leastRules0_ok (hf _ (SameK.refl _)).1) leastB_enter
 refine hr.mono fun e w' ⟨he, hb⟩ => ⟨?_, hb⟩
 rw [he]; exact congrArg (fun x => Ending.returned (.int .i64 x)) (leastE_ev rfl rfl)
end
open DsLaw (lt)
def isLit : Option Bool -> Bool
 | some true => true
 | _ => false
def spLeast : Spc := fun f args hp fs => match args with
 | [.inp k z o l0 l c] => match hp.at k with
  | some ⟨_, .arr 0 ks l0'⟩ => if (f = 87 \/ f = 98) /\ lksEq ks portLk = true /\ o = 0 /\ l0'.beq l = true /\ isLit (decideE fs (lt0 (.lit 0) l)) = true
   then some ⟨.int .i64 (leastE l), hp, learnAll [(lt0 (leastE l) (.lit (-1)), false), (lt0 (leastE l) l, true)] fs⟩ else none
  | _ => none
 | _ => none
theorem isLit_spec {o : Option Bool} (h : isLit o = true) : o = some true := by
 unfold isLit at h; split at h
 ·rfl
 ·cases h
section
variable {ρ : Env} {own : DS} {n : Nat} {w0 : World} {gl : Gl}
theorem spLeast_ok (hf : ρ.fn = namesD own ρ.arr n) (ht : TabsIn tabsT w0) : SpecOk Tryz.prog ρ w0 (fun _ => False) gl spLeast := fun f args hp fs o h β w hh hfs ha hg => by
 unfold spLeast at h; split at h
 ·rename_i k z off l0 l c
  split at h
  ·rename_i r ks l0' hk
   split at h
   ·rename_i hc
    obtain ⟨c1, c2, rfl, c4, c5⟩ := hc; obtain rfl := sinj h; obtain rfl := lksEq_spec c2; obtain rfl := E.beq_eq _ _ c4; have h1 := lt_of_decide hfs (isLit_spec c5); obtain ⟨a1, _⟩ := ha; obtain ⟨a1, a2, a3, a4, a5⟩ := a1
    have h3 : l0'.ev ρ <= 9223372036854775807 := by
     have i2 : IntKind.i64.max = 9223372036854775807 := by decide
     have := ((wf_iff .i64 _).1 a2).2; rwa [i2] at this
    have hA := ArrIn.of_heap hh hk rfl (len := l0') (cap := c) h1 a4 h3; have hl : l0'.ev ρ = ((l0'.ev ρ).toNat : Int) := by have h0 : (0 : Int) < l0'.ev ρ := h1; omega
    have hle := leastE_ev (A := ρ.arr) hf hl; have hrng := DcLaw.least_rng (has := hasA ρ.arr) (set := setA ρ.arr) (l0'.ev ρ).toNat; have hlen := (wf_iff .i64 _).1 a2; have i1 : IntKind.i64.min = -9223372036854775808 := by decide
    have i2 : IntKind.i64.max = 9223372036854775807 := by decide
    rw [i1, i2] at hlen
    have fin : Calls Tryz.prog f (SV.evs ρ β [SV.inp k z 0 l0 l0' c]).toArray w fun e w' => e = .returned (.int .i64 (DcLaw.least (hasA ρ.arr) (setA ρ.arr) (l0'.ev ρ).toNat)) /\ Below w.heap.size w w' := by
     have e : SV.evs ρ β [SV.inp k z 0 l0 l0' c] = [.slice (some ⟨(β k).1, (β k).2, none⟩) (l0'.ev ρ).toNat (c.ev ρ).toNat] := by simp only [SV.evs, SV.ev, Nat.add_zero]
     rw [e]; rcases c1 with rfl | rfl
     ·exact leastA_calls (TabsIn.kept ht hh.kept) hA
     ·exact leastB_calls (TabsIn.kept ht hh.kept) hA
    refine fin.mono fun e w' ⟨he, hb⟩ => ⟨β, Ext.refl _ _, Nat.le_refl _, Stay.refl _, hh.below hb, learnAll_ok ?_ hfs, ?_, ?_⟩
    ·rw [fsOk_cons, fsOk_cons, fsOk_nil, lt0_ev, lt0_ev, hle, lit_ev]
     refine ⟨?_, ?_, trivial⟩
     ·simp only [Bool.false_eq_true, iff_false]; omega
     ·simp only [iff_true]; omega
    ·show (Lit.int .i64 ((leastE l0').ev ρ)).wf = true
     rw [hle]; exact (wf_iff .i64 _).2 (by rw [i1, i2]; omega)
    ·rw [he]
     show Ending.returned (.int .i64 _) = Ending.returned (.int .i64 ((leastE l0').ev ρ)); rw [hle]
   ·cases h
  ·cases h
 ·cases h
end
def spC : Spc := orSpec spLeast (sumSpec sumsL)
def callC : Caller := callG Tryz.prog (tabGl tabsT 0) okF spC noKeep 80 30
theorem callC_ok {ρ : Env} {own : DS} {n : Nat} {w0 : World} (hf : ρ.fn = namesD own ρ.arr n) (ht : TabsIn tabsT w0) : CallOk Tryz.prog ρ w0 (fun _ => False) (tabGl tabsT 0) callC :=
 callG_run mixed okF_ok (orSpec_ok (spLeast_ok hf ht) (sumSpec_ok (sumsL_ok ρ (by rw [hf]; rfl) ht))) 30
def ownE : List E := [.var 0, .var 1, .var 2, .var 3, .var 4, .var 5, .var 6, .var 7, .var 8, .var 9, .var 10]
def bstE (m : Nat) : E := leastE (litN m)
def furE (m : Nat) (st : E) (i : Nat) : List E := [.rd 0 11 (bstE m), .rd 0 19 (bstE m), .rd 0 27 (bstE m), .rd 0 35 (bstE m), .rd 0 43 (bstE m), .rd 0 55 (bstE m), st, .var 7, litN (i + 1), .rd 0 87 (litN i), litN (i + 1)]
def stE (m : Nat) : E := .rd 0 59 (bstE m)
def stE1 (m : Nat) : E := .bin .zadd .i64 (stE m) (.lit 1)
def decRules (m i : Nat) : List Rule :=
 let lo : E × Bool := (lt0 (.lit 127) (.var 1), false)
 let hi : E × Bool := (lt0 (.lit 127) (.var 1), true)
 let has : E := eq0 (hasE (litN i)) (.lit 0)
 let lI : E := lessE ownE (setE (litN i))
 let lB : E := lessE ownE (setE (bstE m))
 let no : E := lt0 (bstE m) (.lit 0)
 let is : E := eq0 (bstE m) (litN i)
 let big : E := lt0 (.rd 0 59 (leastE (.var 11))) (.lit 4611686018427387904)
 let c (n : Int) : Fs := [(eq0 (codeE i) (.lit n), true)]
 [⟨[lo, (has, true)], c 1⟩, ⟨[lo, (has, false), (lI, true)], c 1⟩, ⟨[lo, (has, false), (lI, false)], c 4⟩,
  ⟨[hi, (no, true)], c 2⟩, ⟨[hi, (no, false), (lB, true)], c 2⟩, ⟨[hi, (no, false), (lB, false), (is, true)], c 6⟩,
  ⟨[hi, (no, false), (lB, false), (is, false), (has, true)], c 3⟩,
  ⟨[hi, (no, false), (lB, false), (is, false), (has, false), (big, true), (lessE (furE m (stE1 m) i) (setE (litN i)), true)], c 3⟩,
  ⟨[hi, (no, false), (lB, false), (is, false), (has, false), (big, true), (lessE (furE m (stE1 m) i) (setE (litN i)), false)], c 5⟩,
  ⟨[hi, (no, false), (lB, false), (is, false), (has, false), (big, false), (lessE (furE m (stE m) i) (setE (litN i)), true)], c 3⟩,
  ⟨[hi, (no, false), (lB, false), (is, false), (has, false), (big, false), (lessE (furE m (stE m) i) (setE (litN i)), false)], c 5⟩]
def ownOf (ρ : Env) : DS := ⟨ρ.v 0, ρ.v 1, ρ.v 2, ρ.v 3, ρ.v 4, ρ.v 5, ρ.v 6, ρ.v 7, ρ.v 8, ρ.v 9, ρ.v 10⟩
section
variable {ρ : Env} {A : Nat -> Nat -> Int -> Int}
theorem ownE_ev (l : List Int) : dsOf (E.evs ρ ownE ++ l) = ownOf ρ := rfl
theorem decRules_ok {m : Nat} (hf : ρ.fn = namesD (ownOf ρ) A m) (hA : ρ.arr = A) (hm : ρ.v 11 = m) (i : Nat) : ∀ r ∈ decRules m i, RuleOk ρ r := by
 have hb : (bstE m).ev ρ = DcLaw.least (hasA A) (setA A) m := leastE_ev hf rfl; have hb' : (leastE (.var 11)).ev ρ = DcLaw.least (hasA A) (setA A) m := leastE_ev hf hm; have hcd : (codeE i).ev ρ = DcLaw.code (ownOf ρ) (hasA A) (setA A) m i := codeE_ev hf i
 have hhas : (eq0 (hasE (litN i)) (.lit 0)).ev ρ ≠ 0 ↔ hasA A i = false := by
  rw [eq0_ev, lit_ev]; have := hasE_ev hA (i := litN i) (k := i) rfl; rw [<- Bool.not_eq_true, <- this]; exact Decidable.not_not.symm
 have hlI : (lessE ownE (setE (litN i))).ev ρ ≠ 0 ↔ lt (ownOf ρ) (setA A i) := lessE_ev hf ownE_ev (setE_ev hA rfl) rfl; have hnat : 0 <= (bstE m).ev ρ -> (bstE m).ev ρ = ((DcLaw.least (hasA A) (setA A) m).toNat : Int) := fun h => by rw [hb] at h ⊢; omega
 have hlB : 0 <= (bstE m).ev ρ -> ((lessE ownE (setE (bstE m))).ev ρ ≠ 0 ↔ lt (ownOf ρ) (setA A (DcLaw.least (hasA A) (setA A) m).toNat)) := fun h => lessE_ev hf ownE_ev (setE_ev hA (hnat h)) rfl
 have hbig : 0 <= (bstE m).ev ρ -> (E.rd 0 59 (leastE (.var 11))).ev ρ = (setA A (DcLaw.least (hasA A) (setA A) m).toNat).steps := fun h => by
  have := hnat h; rw [rd_ev hA, hb', <- hb, this]; rfl
 have hst : 0 <= (bstE m).ev ρ -> (stE m).ev ρ = (setA A (DcLaw.least (hasA A) (setA A) m).toNat).steps := fun h => by
  show (E.rd 0 59 (bstE m)).ev ρ = _; rw [rd_ev hA, hnat h]; rfl
 have hfur : 0 <= (bstE m).ev ρ -> ∀ st, st.ev ρ = (if (setA A (DcLaw.least (hasA A) (setA A) m).toNat).steps < 4611686018427387904 then (setA A (DcLaw.least (hasA A) (setA A) m).toNat).steps + 1 else (setA A (DcLaw.least (hasA A) (setA A) m).toNat).steps) ->
   ((lessE (furE m st i) (setE (litN i))).ev ρ ≠ 0 ↔ lt (DcLaw.further (setA A (DcLaw.least (hasA A) (setA A) m).toNat) (ownOf ρ) ((i : Int) + 1) (setA A i)) (setA A i)) := fun h st hs => by
  refine lessE_ev hf (fun l => ?_) (setE_ev hA rfl) rfl
  simp only [furE, E.evs, rd_ev hA, hnat h, hs, List.cons_append, List.nil_append, dsOf, List.headD_cons, List.tail_cons, litN_ev, var_ev, DcLaw.further, setA, ownOf, Int.natCast_succ]
 intro r hr; simp only [decRules, mCo, List.not_mem_nil, or_false] at hr
 rcases hr with rfl | rfl | rfl | rfl | rfl | rfl | rfl | rfl | rfl | rfl | rfl <;>
  simp only [RuleOk, fsOk_cons, fsOk_nil, and_true, hhas, hlI] <;> rw [eq0_ev] <;> simp only [lt0_ev, eq0_ev, lit_ev, litN_ev, var_ev, iff_true, Bool.false_eq_true, iff_false, Int.not_lt, hcd, Bool.not_eq_false]
 ·rintro ⟨h1, h2⟩
  unfold DcLaw.code; rw [if_pos (show (ownOf ρ).cls <= 127 from h1), if_pos (.inl h2)]
 ·rintro ⟨h1, h2, h3⟩
  unfold DcLaw.code; rw [if_pos (show (ownOf ρ).cls <= 127 from h1), if_pos (.inr h3)]
 ·rintro ⟨h1, h2, h3⟩
  unfold DcLaw.code; rw [if_pos (show (ownOf ρ).cls <= 127 from h1), if_neg (by rw [h2]; simpa using h3)]
 ·rintro ⟨h1, h2⟩
  unfold DcLaw.code; rw [if_neg (show ¬ (ownOf ρ).cls <= 127 from Int.not_le.2 h1), if_pos (.inl (hb ▸ h2))]
 ·rintro ⟨h1, h2, h3⟩
  unfold DcLaw.code; rw [if_neg (show ¬ (ownOf ρ).cls <= 127 from Int.not_le.2 h1), if_pos (.inr ((hlB h2).1 h3))]
 all_goals
  intro h; obtain ⟨h1, h2, h3, h4⟩ := h; rw [hlB h2] at h3; have e1 : ¬ (ownOf ρ).cls <= 127 := Int.not_le.2 h1
  have e2 : ¬ (DcLaw.least (hasA A) (setA A) m < 0 \/ lt (ownOf ρ) (setA A (DcLaw.least (hasA A) (setA A) m).toNat)) := by
   rintro (h5 | h5)
   ·rw [hb] at h2; omega
   ·exact h3 h5
  unfold DcLaw.code; rw [if_neg e1, if_neg e2]
 ·rw [if_pos (by rw [<- hb, h4])]
 ·rw [if_neg (by rw [<- hb]; exact fun h => h4.1 h.symm), if_pos (.inl h4.2)]
 all_goals
  obtain ⟨h4, h5, h6, h7⟩ := h4; rw [hbig h2] at h6; rw [if_neg (by rw [<- hb]; exact fun h => h4 h.symm)]
 ·rw [hfur h2 _ (by rw [if_pos h6]; show (stE m).ev ρ + 1 = _; rw [hst h2])] at h7
  rw [if_pos (.inr h7)]
 ·rw [hfur h2 _ (by rw [if_pos h6]; show (stE m).ev ρ + 1 = _; rw [hst h2])] at h7
  rw [if_neg]
  rintro (h8 | h8)
  ·rw [h5] at h8; cases h8
  ·exact h7 h8
 ·rw [hfur h2 _ (by rw [if_neg (Int.not_lt.2 h6), hst h2])] at h7
  rw [if_pos (.inr h7)]
 ·rw [hfur h2 _ (by rw [if_neg (Int.not_lt.2 h6), hst h2])] at h7
  rw [if_neg]
  rintro (h8 | h8)
  ·rw [h5] at h8; cases h8
  ·exact h7 h8
end
def dsVs : List Lk -> List E -> List SV := fun l es => List.zipWith (fun l e => match l with
 | .int k => SV.int k e
 | .bool => SV.bool e) l es
def decSh : List Ph := [.sh dsSh, .sl portLk]
def portsD : SV := .inp 1 12 0 (.var 11) (.var 11) (.var 12)
def decBx : List Box := [tabBx, ⟨false, .arr 0 portLk (.var 11)⟩, ⟨true, .cells (dsVs dsLk ownE) 46 0⟩]
def lenIs (m : Nat) : Fs := [(eq0 (.var 11) (litN m), true)]
def decFacts (m : Nat) : Fs := lenIs m ++ (lenU 11 ++ [(lt0 (leastE (.var 11)) (.lit (-1)), false), (lt0 (leastE (.var 11)) (.var 11), true), (lt0 (leastE (.var 11)) (litN m), true)])
def codesUp (m i : Nat) : List SV := (List.range m).map fun j => .int .i64 (if j < i then codeE j else .lit 0)
def codesS (m : Nat) : List SV := (List.range m).map fun j => .int .i64 (codeE j)
def decTA (m i : Nat) : TmR := ⟨⟨83, [(23, .int .i64 (litN i)), (1, portsD), (2, .ptr 2 0), (6, .ptr 3 0), (7, .func 88 [] [.ptr 3 0]), (8, .slice 4 0 i (some m)), (21, portsD), (22, .int .i64 (.var 11))],
 decBx ++ [⟨true, .cells [.int .i64 (leastE (.var 11))] 3 0⟩, ⟨true, .cells (codesUp m i) 3 0⟩], decFacts m⟩, litN (m - i), decRules m i⟩
def decTB (m i : Nat) : TmR := ⟨⟨29, [(8, .int .i64 (litN i)), (1, portsD), (2, .ptr 2 0), (6, .int .i64 (leastE (.var 11))), (7, if i = 0 then .raw (.slice none 0 0) else .slice 3 0 i none)],
 decBx ++ (if i = 0 then [] else [⟨true, .cells (codesS i) 3 2⟩]), decFacts m⟩, litN (m - i), decRules m i⟩
def decCA (m : Nat) : CutR := ⟨[1, 1, 1, 1, 1, 0, 1, 0], 1, (List.range (m + 1)).map (decTA m)⟩
def decCB (m : Nat) : CutR := ⟨[1, 1, 1, 1, 0, 1, 0], 1, (List.range (m + 1)).map (decTB m)⟩
def decWA (m : Nat) : List SV := [.slice 4 0 m (some m), .int .i64 (.lit 0)]
def decWB (m : Nat) : List SV := [.slice 3 0 m none, .int .i64 (.lit 0)]
def decCodeA : Code := (Tryz.f49.body).getD .skip
def decCodeB : Code := (Tryz.f67.body).getD .skip
def decEnterA (m : Nat) : Bool := (execP Tryz.prog (tabGl tabsT 0) callC (noKeep 49) 80 decCodeA (entrySt Tryz.f49 (phArgs tabsT.length (phSize decSh) none decSh 0) (arrHp tabsT (phKs decSh) (phSize decSh)) (lenIs m ++ (lenU (phSize decSh) ++ phFacts decSh 0)))).all (leafOkR (tabGl tabsT 0) [decCA m] (wantEnd Tryz.prog Tryz.f49 (decWA m) [(4, .cells (codesS m) 3 0)]) (phSize decSh + 2) [] 2)
def decEnterB (m : Nat) : Bool := (execP Tryz.prog (tabGl tabsT 0) callC (noKeep 67) 80 decCodeB (entrySt Tryz.f67 (phArgs tabsT.length (phSize decSh) none decSh 0) (arrHp tabsT (phKs decSh) (phSize decSh)) (lenIs m ++ (lenU (phSize decSh) ++ phFacts decSh 0)))).all (leafOkR (tabGl tabsT 0) [decCB m] (wantEnd Tryz.prog Tryz.f67 (decWB m) [(3, .cells (codesS m) 3 2)]) (phSize decSh + 2) [] 2)
def decRoundA (m i : Nat) (g : Nat -> Value) : Bool := roundOkR Tryz.prog (tabGl tabsT 0) callC (noKeep 49) 80 [decCA m] (wantEnd Tryz.prog Tryz.f49 (decWA m) [(4, .cells (codesS m) 3 0)]) (phSize decSh + 2) decCodeA [] (decCA m) (decTA m i) g
def decRoundB (m i : Nat) (g : Nat -> Value) : Bool := roundOkR Tryz.prog (tabGl tabsT 0) callC (noKeep 67) 80 [decCB m] (wantEnd Tryz.prog Tryz.f67 (decWB m) [(3, .cells (codesS m) 3 2)]) (phSize decSh + 2) decCodeB [] (decCB m) (decTB m i) g
def upTo (m : Nat) (p : Nat -> Bool) : Bool := (List.range (m + 1)).all p
end Dcd
end
end Go.Proofs.YtfcpmapfhgibpaaGreatDoor
