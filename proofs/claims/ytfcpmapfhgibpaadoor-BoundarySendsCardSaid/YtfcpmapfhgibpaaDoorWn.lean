/- Package port. -/
import Derived.Test.YtfcpmapfhgibpaaDoorWl
import Derived.Deep.Light
import Derived.Lib.Hide
import Derived.WalkLawsBesides
import Derived.Outline
import Derived.Test.YtfcpmapfhgibpaaDoorWm
namespace Go.Proofs.YtfcpmapfhgibpaaDoor.PortLaw

def tbl : List Int := [0, 1, 1, 1, 1, 1, 1, 1, 1, 1, 0, 4, 2, 3, 4, 5, 6, 7, 8, 9, 0, 2, 2, 3, 2, 2, 2, 2, 2, 2, 0, 1, 1, 3, 4, 5, 6, 7, 8, 9, 0, 3, 3, 3, 3, 3, 3, 3, 3, 3,
  0, 1, 2, 1, 4, 5, 6, 7, 8, 9, 0, 1, 2, 3, 6, 5, 6, 6, 6, 6, 0, 1, 2, 3, 4, 6, 6, 7, 8, 9, 0, 1, 2, 3, 4, 5, 6, 7, 9, 9, 0, 1, 2, 3, 4, 5, 6, 7, 8, 8,
  0, 1, 2, 3, 4, 5, 6, 7, 8, 9, 0, 1, 2, 3, 5, 5, 6, 5, 5, 5, 0, 1, 2, 3, 5, 5, 6, 5, 5, 5, 0, 1, 2, 3, 5, 5, 6, 5, 5, 5, 0, 1, 2, 3, 7, 7, 7, 7, 7, 7,
  0, 1, 2, 3, 7, 7, 7, 7, 7, 7, 0, 1, 2, 3, 8, 8, 8, 8, 8, 8]

/-- The next state: of the table, or 0. -/
def nxt (s e : Int) (same : Bool) : Int :=
  if 1 ≤ s ∧ s ≤ 9 then
    if 1 ≤ e ∧ e ≤ 10 then tbl.getD ((e.toNat - 1) * 10 + s.toNat) 0
    else if 20 ≤ e ∧ e ≤ 26 then
      if e = 26 ∧ same = true ∧ s = 9 then s else tbl.getD ((e.toNat - 10) * 10 + s.toNat) 0
    else 0
  else 0

/-- The names. -/
def nmL (n : Int) : List UInt8 :=
  if n = 1 then [105, 110, 105, 116, 105, 97, 108, 105, 122, 105, 110, 103] else if n = 2 then [102, 97, 117, 108, 116, 121] else if n = 3 then [100, 105, 115, 97, 98, 108, 101, 100]
  else if n = 4 then [108, 105, 115, 116, 101, 110, 105, 110, 103] else if n = 5 then [112, 114, 101, 109, 97, 115, 116, 101, 114] else if n = 6 then [109, 97, 115, 116, 101, 114]
  else if n = 7 then [112, 97, 115, 115, 105, 118, 101] else if n = 8 then [117, 110, 99, 97, 108, 105, 98, 114, 97, 116, 101, 100] else if n = 9 then [115, 108, 97, 118, 101] else []
def nm (n : Int) : ByteArray := ⟨(nmL n).toArray⟩

/-- All states, all events, by cases. -/
theorem cases9 (s : Int) (h : 1 ≤ s ∧ s ≤ 9) : s = 1 ∨ s = 2 ∨ s = 3 ∨ s = 4 ∨ s = 5 ∨ s = 6 ∨ s = 7 ∨ s = 8 ∨ s = 9 := by omega
theorem casesE (e : Int) (h : 1 ≤ e ∧ e ≤ 10) : e = 1 ∨ e = 2 ∨ e = 3 ∨ e = 4 ∨ e = 5 ∨ e = 6 ∨ e = 7 ∨ e = 8 ∨ e = 9 ∨ e = 10 := by omega
theorem casesC (e : Int) (h : 20 ≤ e ∧ e ≤ 26) : e = 20 ∨ e = 21 ∨ e = 22 ∨ e = 23 ∨ e = 24 ∨ e = 25 ∨ e = 26 := by omega

theorem nxt_range (s e : Int) (same : Bool) : 0 ≤ nxt s e same ∧ nxt s e same ≤ 9 := by
  by_cases hs : 1 ≤ s ∧ s ≤ 9
  · by_cases he : 1 ≤ e ∧ e ≤ 10
    · rcases cases9 s hs with rfl | rfl | rfl | rfl | rfl | rfl | rfl | rfl | rfl <;>
      rcases casesE e he with rfl | rfl | rfl | rfl | rfl | rfl | rfl | rfl | rfl | rfl <;> cases same <;> decide
    · by_cases hc : 20 ≤ e ∧ e ≤ 26
      · rcases cases9 s hs with rfl | rfl | rfl | rfl | rfl | rfl | rfl | rfl | rfl <;>
        rcases casesC e hc with rfl | rfl | rfl | rfl | rfl | rfl | rfl <;> cases same <;> decide
      · simp [nxt, hs, he, hc]
  · simp [nxt, hs]

theorem nmL_none (n : Int) (h : ¬(1 ≤ n ∧ n ≤ 9)) : nmL n = [] := by
  unfold nmL
  repeat rw [if_neg (by omega)]
theorem nmL_some (n : Int) (h : 1 ≤ n ∧ n ≤ 9) : (nmL n).isEmpty = false := by
  rcases cases9 n h with rfl | rfl | rfl | rfl | rfl | rfl | rfl | rfl | rfl <;> rfl
theorem nmL_inj (a b : Int) (h : 1 ≤ a ∧ a ≤ 9) (hab : ¬ a = b) : (nmL a == nmL b) = false := by
  by_cases hb : 1 ≤ b ∧ b ≤ 9
  · rcases cases9 a h with rfl | rfl | rfl | rfl | rfl | rfl | rfl | rfl | rfl <;>
    rcases cases9 b hb with rfl | rfl | rfl | rfl | rfl | rfl | rfl | rfl | rfl <;> first | rfl | exact absurd rfl hab
  · rw [nmL_none b hb]
    rcases cases9 a h with rfl | rfl | rfl | rfl | rfl | rfl | rfl | rfl | rfl <;> rfl
theorem nxt_power (n : Int) (h : 1 ≤ n ∧ n ≤ 9) : nxt n 1 false = 1 := by
  rcases cases9 n h with rfl | rfl | rfl | rfl | rfl | rfl | rfl | rfl | rfl <;> rfl
/-- The reference's own cases. -/
def isEv (e : Int) : Bool := decide (1 ≤ e ∧ e ≤ 10) || decide (20 ≤ e ∧ e ≤ 26)
theorem isEv_le (e : Int) (h : isEv e = true) : 1 ≤ e ∧ e ≤ 26 := by simp [isEv] at h; omega
def rdec (s c : Int) (same : Bool) : Int :=
  if c = 1 ∨ c = 2 ∨ c = 3 then (if s = 6 then s else 5)
  else if c = 4 ∨ c = 5 then 7
  else if c = 6 then (if same = true ∧ (s = 8 ∨ s = 9) then s else 8)
  else s
def rnxtA (s e : Int) (same : Bool) : Int :=
    if e = 1 then 1 else if e = 5 then 3
    else if e = 3 then (if s = 3 then s else 2)
    else if e = 2 then (if s = 1 then 4 else s)
    else if e = 4 then (if s = 2 then 1 else s)
    else if e = 6 then (if s = 3 then 1 else s)
    else if e = 7 then (if s = 4 ∨ s = 8 ∨ s = 9 ∨ s = 7 then 6 else s)
    else if e = 8 then (if s = 5 then 6 else s)
    else if e = 9 then (if s = 8 then 9 else s)
    else if e = 10 then (if s = 9 then 8 else s)
    else if 20 ≤ e ∧ (4 ≤ s ∧ s ≤ 9) then rdec s (e - 20) same
    else s
def rnxt (s e : Int) (same : Bool) : Int := if (1 ≤ s ∧ s ≤ 9) ∧ isEv e = true then rnxtA s e same else 0
theorem rnxt_in (s e : Int) (same : Bool) (hs : 1 ≤ s ∧ s ≤ 9) (he : isEv e = true) : rnxt s e same = rnxtA s e same := if_pos ⟨hs, he⟩
theorem rnxt_eq (s e : Int) (same : Bool) : rnxt s e same = nxt s e same := by
  by_cases hs : 1 ≤ s ∧ s ≤ 9
  · by_cases he : 1 ≤ e ∧ e ≤ 10
    · rcases cases9 s hs with rfl | rfl | rfl | rfl | rfl | rfl | rfl | rfl | rfl <;>
      rcases casesE e he with rfl | rfl | rfl | rfl | rfl | rfl | rfl | rfl | rfl | rfl <;> cases same <;> decide
    · by_cases hc : 20 ≤ e ∧ e ≤ 26
      · rcases cases9 s hs with rfl | rfl | rfl | rfl | rfl | rfl | rfl | rfl | rfl <;>
        rcases casesC e hc with rfl | rfl | rfl | rfl | rfl | rfl | rfl <;> cases same <;> decide
      · simp [rnxt, nxt, hs, he, hc, isEv]
  · simp [rnxt, nxt, hs]

theorem nxt6_zero (e : Int) (same : Bool) (h : nxt 6 e same = 0) : ¬ (1 ≤ e ∧ e ≤ 10) ∧ ¬ (20 ≤ e ∧ e ≤ 26) := by
  refine ⟨fun he => ?_, fun he => ?_⟩
  · rcases casesE e he with rfl | rfl | rfl | rfl | rfl | rfl | rfl | rfl | rfl | rfl <;> cases same <;> revert h <;> decide
  · rcases casesC e he with rfl | rfl | rfl | rfl | rfl | rfl | rfl <;> cases same <;> revert h <;> decide
theorem nxt_valid (s e : Int) (same : Bool) (h : ¬ nxt s e same = 0) : (1 ≤ e ∧ e ≤ 10) ∨ (20 ≤ e ∧ e ≤ 26) := by
  by_cases h1 : 1 ≤ e ∧ e ≤ 10
  · exact .inl h1
  · by_cases h2 : 20 ≤ e ∧ e ≤ 26
    · exact .inr h2
    · exact absurd (by simp [nxt, h1, h2]) h
theorem leaves (e : Int) (same : Bool) (h : ¬ nxt 6 e same = 0) :
    nxt 3 e same = (if e = 1 ∨ e = 6 then 1 else 3) ∧ nxt 2 e same = (if e = 1 ∨ e = 4 then 1 else if e = 5 then 3 else 2) ∧
    nxt 1 e same = (if e = 5 then 3 else if e = 3 then 2 else if e = 2 then 4 else 1) := by
  rcases nxt_valid _ _ _ h with he | he
  · rcases casesE e he with rfl | rfl | rfl | rfl | rfl | rfl | rfl | rfl | rfl | rfl <;> cases same <;> decide
  · rcases casesC e he with rfl | rfl | rfl | rfl | rfl | rfl | rfl <;> cases same <;> decide

theorem decides (s c : Int) (same : Bool) (hs : 4 ≤ s ∧ s ≤ 9) (hc : 0 ≤ c ∧ c ≤ 6) :
    nxt s (20 + c) same = (if c = 1 ∨ c = 2 ∨ c = 3 then (if s = 6 then 6 else 5) else if c = 4 ∨ c = 5 then 7 else if c = 6 then (if same = true ∧ s = 9 then 9 else 8) else s) ∧
    nxt (nxt s (20 + c) same) (20 + c) true = nxt s (20 + c) same := by
  obtain ⟨e, he⟩ : ∃ e, e = 20 + c := ⟨_, rfl⟩
  obtain rfl : c = e - 20 := by omega
  rcases casesC e (by omega) with rfl | rfl | rfl | rfl | rfl | rfl | rfl <;>
  rcases cases9 s (by omega) with rfl | rfl | rfl | rfl | rfl | rfl | rfl | rfl | rfl <;> first | (exfalso; omega) | (cases same <;> decide)

/-- Each state is entered only by its own events. -/
theorem enters (s e : Int) (b : Bool) (n : Int) (hn : n = nxt s e b) (h0 : ¬ n = 0) : 1 ≤ n ∧ n ≤ 9 ∧ (¬ n = s →
    (n = 9 → e = 9 ∧ s = 8) ∧ (n = 6 → e = 7 ∧ ¬ s = 5 ∨ e = 8 ∧ s = 5) ∧ (n = 8 → e = 26 ∨ e = 10 ∧ s = 9) ∧ (n = 7 → e = 24 ∨ e = 25) ∧ (n = 5 → 21 ≤ e ∧ e ≤ 23) ∧ (n = 4 → e = 2)) := by
  subst hn
  by_cases hs : 1 ≤ s ∧ s ≤ 9
  · rcases nxt_valid _ _ _ h0 with he | he
    · rcases casesE e he with rfl | rfl | rfl | rfl | rfl | rfl | rfl | rfl | rfl | rfl <;>
      rcases cases9 s hs with rfl | rfl | rfl | rfl | rfl | rfl | rfl | rfl | rfl <;> cases b <;> decide
    · rcases casesC e he with rfl | rfl | rfl | rfl | rfl | rfl | rfl <;>
      rcases cases9 s hs with rfl | rfl | rfl | rfl | rfl | rfl | rfl | rfl | rfl <;> cases b <;> decide
  · exact absurd (by simp [nxt, hs]) h0

def run (s : Int) : List (Int × Bool) → Int
  | [] => s
  | (e, b) :: l => run (nxt s e b) l

def runK (s : Int) (l : List (Int × Bool)) : Int := if 1 ≤ s ∧ s ≤ 9 then run s l else 0
theorem run_append (s : Int) (l m : List (Int × Bool)) : run s (l ++ m) = run (run s l) m := by
  induction l generalizing s with
  | nil => rfl
  | cons x l ih => exact ih _

theorem run_snoc (s : Int) (l : List (Int × Bool)) (x : Int × Bool) : run s (l ++ [x]) = nxt (run s l) x.1 x.2 := by
  rw [run_append]; rfl

theorem nxt_zero (e : Int) (b : Bool) : nxt 0 e b = 0 := rfl
theorem run_zero (l : List (Int × Bool)) : run 0 l = 0 := by
  induction l with
  | nil => rfl
  | cons x l ih => exact ih

theorem run_range (s : Int) (hs : 1 ≤ s ∧ s ≤ 9) (l : List (Int × Bool)) : 0 ≤ run s l ∧ run s l ≤ 9 := by
  rcases List.eq_nil_or_concat l with rfl | ⟨l', x, rfl⟩
  · simp only [run]; omega
  · rw [List.concat_eq_append, run_snoc]; exact nxt_range _ _ _

end Go.Proofs.YtfcpmapfhgibpaaDoor.PortLaw
namespace Go.Proofs.YtfcpmapfhgibpaaDoor
set_option linter.unusedVariables false
open Go Go.RowKit SX

theorem known_any (n : Int) (w : World) : Calls Tryd.prog 51 #[.int .i64 n] w fun e w' => e = .returned (.bool (decide (1 ≤ n ∧ n ≤ 9))) ∧ w = w' := by
  by_cases h1 : 1 ≤ n <;> by_cases h2 : n ≤ 9
  all_goals
    go_enter Tryd.func51, Tryd.ntmps51
    go_wp2
    go_ret
    simp [*]

def PortTab (w : World) : Prop := ∀ i : Nat, i < 170 → w.cell? ⟨1, i, none⟩ = some (.int .i64 (PortLaw.tbl.getD i 0))

theorem next_no (s e : Int) (same : Bool) (w : World) (h : ¬(1 ≤ s ∧ s ≤ 9)) :
    Calls Tryd.prog 52 #[.int .i64 s, .int .i64 e, .bool same] w fun en w' => en = .returned (.int .i64 0) ∧ w = w' := by
  have hk : decide (1 ≤ s ∧ s ≤ 9) = false := by simpa using h
  clear h
  go_enter Tryd.func52, Tryd.ntmps52
  go_wp2_with (go_at_call 51; refine (known_any _ _).mono ?_; rintro en w' ⟨rfl, rfl⟩)
  go_ret
  exact ⟨rfl, rfl⟩
theorem next_none (s e : Int) (same : Bool) (w : World) (h1 : ¬(1 ≤ e ∧ e ≤ 10)) (h2 : ¬ (20 ≤ e ∧ e ≤ 26)) (hs : 1 ≤ s ∧ s ≤ 9) :
    Calls Tryd.prog 52 #[.int .i64 s, .int .i64 e, .bool same] w fun en w' => en = .returned (.int .i64 0) ∧ w = w' := by
  have hk : decide (1 ≤ s ∧ s ≤ 9) = true := by simpa using hs
  by_cases h3 : 1 ≤ e <;> by_cases h4 : 20 ≤ e
  all_goals
    go_enter Tryd.func52, Tryd.ntmps52
    go_wp2_with (go_at_call 51; refine (known_any _ _).mono ?_; rintro en w' ⟨rfl, rfl⟩)
    all_goals (go_ret; exact ⟨rfl, rfl⟩)
theorem next_ev (s e : Int) (same : Bool) (v : Int) (w : World) (hs : 1 ≤ s ∧ s ≤ 9) (he : 1 ≤ e) (he2 : e ≤ 10)
    (hc : w.cell? ⟨1, (e.toNat - 1) * 10 + s.toNat, none⟩ = some (.int .i64 v)) :
    Calls Tryd.prog 52 #[.int .i64 s, .int .i64 e, .bool same] w fun en w' => en = .returned (.int .i64 v) ∧ w = w' := by
  have hk : decide (1 ≤ s ∧ s ≤ 9) = true := by simpa using hs
  have hne : (e - 1 == 16) = false := by simp; omega
  have hs1 := hs.1
  have hs2 := hs.2
  clear hs
  go_enter Tryd.func52, Tryd.ntmps52
  go_wp2_with (go_at_call 51; refine (known_any _ _).mono ?_; rintro en w' ⟨rfl, rfl⟩)
  go_ret
  exact ⟨rfl, rfl⟩
theorem next_code (s e : Int) (same : Bool) (v : Int) (w : World) (hs : 1 ≤ s ∧ s ≤ 9) (he : 20 ≤ e) (he2 : e ≤ 25)
    (hc : w.cell? ⟨1, (e.toNat - 10) * 10 + s.toNat, none⟩ = some (.int .i64 v)) :
    Calls Tryd.prog 52 #[.int .i64 s, .int .i64 e, .bool same] w fun en w' => en = .returned (.int .i64 v) ∧ w = w' := by
  have hk : decide (1 ≤ s ∧ s ≤ 9) = true := by simpa using hs
  have hne : (10 + e - 20 == 16) = false := by simp; omega
  have hs1 := hs.1
  have hs2 := hs.2
  clear hs
  have ho : (10 + e - 20).toNat = e.toNat - 10 := by omega
  go_enter Tryd.func52, Tryd.ntmps52
  go_wp2_with (go_at_call 51; refine (known_any _ _).mono ?_; rintro en w' ⟨rfl, rfl⟩)
  go_ret
  exact ⟨rfl, rfl⟩
theorem next_s1 (s : Int) (same : Bool) (w : World) (hs : 1 ≤ s ∧ s ≤ 9) (hc : PortTab w) :
    Calls Tryd.prog 52 #[.int .i64 s, .int .i64 26, .bool same] w fun en w' => en = .returned (.int .i64 (PortLaw.nxt s 26 same)) ∧ w = w' := by
  rcases PortLaw.cases9 s hs with rfl | rfl | rfl | rfl | rfl | rfl | rfl | rfl | rfl
  all_goals
    have h0 := hc 161 (by omega)
    have h1 := hc 162 (by omega)
    have h2 := hc 163 (by omega)
    have h3 := hc 164 (by omega)
    have h4 := hc 165 (by omega)
    have h5 := hc 166 (by omega)
    have h6 := hc 167 (by omega)
    have h7 := hc 168 (by omega)
    have h8 := hc 169 (by omega)
    clear hc
    cases same
  all_goals
    go_enter Tryd.func52, Tryd.ntmps52
    go_wp2_with (go_at_call 51; refine (known_any _ _).mono ?_; rintro en w' ⟨rfl, rfl⟩)
    go_ret
    exact ⟨rfl, rfl⟩
theorem next_any (s e : Int) (same : Bool) (w : World) (hc : PortTab w) :
    Calls Tryd.prog 52 #[.int .i64 s, .int .i64 e, .bool same] w fun en w' => en = .returned (.int .i64 (PortLaw.nxt s e same)) ∧ w = w' := by
  by_cases hs : 1 ≤ s ∧ s ≤ 9
  · by_cases h1 : 1 ≤ e ∧ e ≤ 10
    · refine (next_ev s e same _ w hs h1.1 h1.2 (hc _ (by omega))).mono fun en w' h => ?_
      simpa [PortLaw.nxt, hs, h1] using h
    · by_cases h2 : 20 ≤ e ∧ e ≤ 26
      · by_cases h3 : e = 26
        · subst h3; exact next_s1 s same w hs hc
        · refine (next_code s e same _ w hs h2.1 (by omega) (hc _ (by omega))).mono fun en w' h => ?_
          simpa [PortLaw.nxt, hs, h1, h2, h3] using h
      · refine (next_none s e same w h1 h2 hs).mono fun en w' h => ?_
        simpa [PortLaw.nxt, hs, h1, h2] using h
  · refine (next_no s e same w hs).mono fun en w' h => ?_
    simpa [PortLaw.nxt, hs] using h
theorem portTab_of {w : World} (h : TabsIn tabs2 w) : PortTab w := fun i hi => h (1, cellsP) (List.mem_cons_of_mem _ (List.mem_cons_self ..)) i _ (by
  have hl : PortLaw.tbl.length = 170 := rfl
  have hc : cellsP = PortLaw.tbl.map (Value.int .i64) := by kernel_rfl
  rw [hc, List.getElem?_map, List.getElem?_eq_getElem (by omega)]
  simp [List.getD, hl, hi])

end Go.Proofs.YtfcpmapfhgibpaaDoor
namespace Go.Proofs.YtfcpmapfhgibpaaDoor
open Go Go.RowKit SX Frm Frn
set_option linter.unusedVariables false
/-- Next, by numbers. -/
def nextI (ns : List Int) : Int := PortLaw.nxt (ns.headD 0) (ns.getD 1 0) (decide (ns.getD 2 0 ≠ 0))
noncomputable def nm69 : Nat → Nat → List Int → Int := fun f => if f = 69 then fun _ => nextI else nm68 f
theorem but69 : But 69 nm69 nm68 := fun f hf => if_neg hf
def nextE (s e b : E) : E := .app 69 0 [s, e, b]
def spNext : Spc := fun f args hp fs => match args with
  | [.int .i64 s, .int .i64 e, .bool b] => if f = 52 then some ⟨.int .i64 (nextE (canon fs s) (canon fs e) (canon fs b)), hp, fs⟩ else none
  | _ => none
theorem nextE_ev {ρ : Env} (hf : ρ.fn 69 = nm69 69) (s e b : E) : (nextE s e b).ev ρ = PortLaw.nxt (s.ev ρ) (e.ev ρ) (decide (b.ev ρ ≠ 0)) := by
  show ρ.fn 69 0 [s.ev ρ, e.ev ρ, b.ev ρ] = _
  rw [hf]
  rfl
theorem spNext_ok {ρ : Env} {w0 : World} {M : Nat → Prop} {gl : Gl} (hf : ρ.fn 69 = nm69 69) (hT : ∀ w', Kept w0 M w' → TabsIn tabs2 w') : SpecOk Tryd.prog ρ w0 M gl spNext := fun f args hp fs o h β w hh hfs ha hg => by
  unfold spNext at h
  split at h
  · rename_i s e b
    split at h
    · rename_i hc
      subst hc
      obtain rfl := Option.some.inj h
      have hv : (nextE (canon fs s) (canon fs e) (canon fs b)).ev ρ = PortLaw.nxt (s.ev ρ) (e.ev ρ) (decide (b.ev ρ ≠ 0)) := by rw [nextE_ev hf, canon_ev hfs, canon_ev hfs, canon_ev hfs]
      have hr := PortLaw.nxt_range (s.ev ρ) (e.ev ρ) (decide (b.ev ρ ≠ 0))
      refine (next_any (s.ev ρ) (e.ev ρ) (decide (b.ev ρ ≠ 0)) w (portTab_of (hT _ hh.kept))).mono fun x w' ⟨hx, hw⟩ => ?_
      subst hw
      refine ⟨β, Ext.refl _ _, Nat.le_refl _, Stay.refl _, hh, hfs, ?_, ?_⟩
      · show (Lit.int .i64 ((nextE (canon fs s) (canon fs e) (canon fs b)).ev ρ)).wf = true
        rw [hv]
        have i1 : IntKind.i64.min = -9223372036854775808 := by decide
        have i2 : IntKind.i64.max = 9223372036854775807 := by decide
        exact (wf_iff .i64 _).2 (by rw [i1, i2]; omega)
      · rw [hx]
        show Ending.returned (.int .i64 _) = Ending.returned (.int .i64 ((nextE (canon fs s) (canon fs e) (canon fs b)).ev ρ))
        rw [hv]
    · cases h
  · cases h
end Go.Proofs.YtfcpmapfhgibpaaDoor
