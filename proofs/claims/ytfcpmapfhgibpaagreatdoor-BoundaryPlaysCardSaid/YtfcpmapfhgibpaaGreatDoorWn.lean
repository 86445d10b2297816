/- Package port. -/
import Derived.Test.YtfcpmapfhgibpaaGreatDoorWk
import Derived.Deep.Light
import Derived.Lib.Hide
import Derived.WalkLawsBesides
import Derived.Outline
import Derived.Test.YtfcpmapfhgibpaaGreatDoorWm
import Derived.Test.YtfcpmapfhgibpaaGreatDoorRows
import Derived.Deep.QuietTactic
import Derived.BigQuiet
import Derived.Test.YtfcpmapfhgibpaaGreatDoorWe
import Derived.WalkKit
import Derived.ProofKit
set_option linter.unusedVariables false
set_option linter.unusedSimpArgs false
set_option maxRecDepth 1000000
namespace Go.Proofs.YtfcpmapfhgibpaaGreatDoor
noncomputable section
namespace PortLaw
def tbl : List Int := [0, 1, 1, 1, 1, 1, 1, 1, 1, 1, 0, 4, 2, 3, 4, 5, 6, 7, 8, 9, 0, 2, 2, 3, 2, 2, 2, 2, 2, 2, 0, 1, 1, 3, 4, 5, 6, 7, 8, 9, 0, 3, 3, 3, 3, 3, 3, 3, 3, 3,
 0, 1, 2, 1, 4, 5, 6, 7, 8, 9, 0, 1, 2, 3, 6, 5, 6, 6, 6, 6, 0, 1, 2, 3, 4, 6, 6, 7, 8, 9, 0, 1, 2, 3, 4, 5, 6, 7, 9, 9, 0, 1, 2, 3, 4, 5, 6, 7, 8, 8,
 0, 1, 2, 3, 4, 5, 6, 7, 8, 9, 0, 1, 2, 3, 5, 5, 6, 5, 5, 5, 0, 1, 2, 3, 5, 5, 6, 5, 5, 5, 0, 1, 2, 3, 5, 5, 6, 5, 5, 5, 0, 1, 2, 3, 7, 7, 7, 7, 7, 7,
 0, 1, 2, 3, 7, 7, 7, 7, 7, 7, 0, 1, 2, 3, 8, 8, 8, 8, 8, 8]
def nxt (s e : Int) (same : Bool) : Int :=
 if 1 <= s /\ s <= 9 then
  if 1 <= e /\ e <= 10 then tbl.getD ((e.toNat - 1) * 10 + s.toNat) 0
  else if 20 <= e /\ e <= 26 then
   if e = 26 /\ same = true /\ s = 9 then s else tbl.getD ((e.toNat - 10) * 10 + s.toNat) 0
  else 0
 else 0
theorem cases9 (s : Int) (h : 1 <= s /\ s <= 9) : s = 1 \/ s = 2 \/ s = 3 \/ s = 4 \/ s = 5 \/ s = 6 \/ s = 7 \/ s = 8 \/ s = 9 := by omega
theorem casesE (e : Int) (h : 1 <= e /\ e <= 10) : e = 1 \/ e = 2 \/ e = 3 \/ e = 4 \/ e = 5 \/ e = 6 \/ e = 7 \/ e = 8 \/ e = 9 \/ e = 10 := by omega
theorem casesC (e : Int) (h : 20 <= e /\ e <= 26) : e = 20 \/ e = 21 \/ e = 22 \/ e = 23 \/ e = 24 \/ e = 25 \/ e = 26 := by omega
theorem nxt_range (s e : Int) (same : Bool) : 0 <= nxt s e same /\ nxt s e same <= 9 := by
 by_cases hs : 1 <= s /\ s <= 9
 ·by_cases he : 1 <= e /\ e <= 10
  ·rcases cases9 s hs with rfl | rfl | rfl | rfl | rfl | rfl | rfl | rfl | rfl <;>
   rcases casesE e he with rfl | rfl | rfl | rfl | rfl | rfl | rfl | rfl | rfl | rfl <;> cases same <;> decide
  ·by_cases hc : 20 <= e /\ e <= 26
   ·rcases cases9 s hs with rfl | rfl | rfl | rfl | rfl | rfl | rfl | rfl | rfl <;>
    rcases casesC e hc with rfl | rfl | rfl | rfl | rfl | rfl | rfl <;> cases same <;> decide
   ·simp [nxt, hs, he, hc]
 ·simp [nxt, hs]
def isEv (e : Int) : Bool := decide (1 <= e /\ e <= 10) || decide (20 <= e /\ e <= 26)
theorem isEv_le (e : Int) (h : isEv e = true) : 1 <= e /\ e <= 26 := by simp [isEv] at h; omega
def rdec (s c : Int) (same : Bool) : Int :=
 if c = 1 \/ c = 2 \/ c = 3 then (if s = 6 then s else 5)
 else if c = 4 \/ c = 5 then 7
 else if c = 6 then (if same = true /\ (s = 8 \/ s = 9) then s else 8)
 else s
def rnxtA (s e : Int) (same : Bool) : Int :=
  if e = 1 then 1 else if e = 5 then 3
  else if e = 3 then (if s = 3 then s else 2)
  else if e = 2 then (if s = 1 then 4 else s)
  else if e = 4 then (if s = 2 then 1 else s)
  else if e = 6 then (if s = 3 then 1 else s)
  else if e = 7 then (if s = 4 \/ s = 8 \/ s = 9 \/ s = 7 then 6 else s)
  else if e = 8 then (if s = 5 then 6 else s)
  else if e = 9 then (if s = 8 then 9 else s)
  else if e = 10 then (if s = 9 then 8 else s)
  else if 20 <= e /\ (4 <= s /\ s <= 9) then rdec s (e - 20) same
  else s
def rnxt (s e : Int) (same : Bool) : Int := if (1 <= s /\ s <= 9) /\ isEv e = true then rnxtA s e same else 0
theorem rnxt_in (s e : Int) (same : Bool) (hs : 1 <= s /\ s <= 9) (he : isEv e = true) : rnxt s e same = rnxtA s e same := if_pos ⟨hs, he⟩
theorem rnxt_eq (s e : Int) (same : Bool) : rnxt s e same = nxt s e same := by
 by_cases hs : 1 <= s /\ s <= 9
 ·by_cases he : 1 <= e /\ e <= 10
  ·rcases cases9 s hs with rfl | rfl | rfl | rfl | rfl | rfl | rfl | rfl | rfl <;>
   rcases casesE e he with rfl | rfl | rfl | rfl | rfl | rfl | rfl | rfl | rfl | rfl <;> cases same <;> decide
  ·by_cases hc : 20 <= e /\ e <= 26
   ·rcases cases9 s hs with rfl | rfl | rfl | rfl | rfl | rfl | rfl | rfl | rfl <;>
    rcases casesC e hc with rfl | rfl | rfl | rfl | rfl | rfl | rfl <;> cases same <;> decide
   ·simp [rnxt, nxt, hs, he, hc, isEv]
 ·simp [rnxt, nxt, hs]
theorem nxt_valid (s e : Int) (same : Bool) (h : ¬ nxt s e same = 0) : (1 <= e /\ e <= 10) \/ (20 <= e /\ e <= 26) := by
 by_cases h1 : 1 <= e /\ e <= 10
 ·exact .inl h1
 ·by_cases h2 : 20 <= e /\ e <= 26
  ·exact .inr h2
  ·exact absurd (by simp [nxt, h1, h2]) h
theorem leaves (e : Int) (same : Bool) (h : ¬ nxt 6 e same = 0) :
  nxt 3 e same = (if e = 1 \/ e = 6 then 1 else 3) /\ nxt 2 e same = (if e = 1 \/ e = 4 then 1 else if e = 5 then 3 else 2) /\
  nxt 1 e same = (if e = 5 then 3 else if e = 3 then 2 else if e = 2 then 4 else 1) := by
 rcases nxt_valid _ _ _ h with he | he
 ·rcases casesE e he with rfl | rfl | rfl | rfl | rfl | rfl | rfl | rfl | rfl | rfl <;> cases same <;> decide
 ·rcases casesC e he with rfl | rfl | rfl | rfl | rfl | rfl | rfl <;> cases same <;> decide
def run (s : Int) : List (Int × Bool) -> Int
 | [] => s
 | (e, b) :: l => run (nxt s e b) l
end PortLaw
section
open Go Go.RowKit SX
theorem known_any (n : Int) (w : World) : Calls Tryz.prog 57 #[.int .i64 n] w fun e w' => e = .returned (.bool (decide (1 <= n /\ n <= 9))) /\ w = w' := by
 by_cases h1 : 1 <= n <;> by_cases h2 : n <= 9
 all_goals
  go_enter Tryz.func57, Tryz.ntmps57
  go_wp2
  go_ret
  simp [*]
def PortTab (w : World) : Prop := ∀ i : Nat, i < 170 -> w.cell? ⟨0, i, none⟩ = some (.int .i64 (PortLaw.tbl.getD i 0))
theorem next_no (s e : Int) (same : Bool) (w : World) (h : ¬(1 <= s /\ s <= 9)) :
  Calls Tryz.prog 58 #[.int .i64 s, .int .i64 e, .bool same] w fun en w' => en = .returned (.int .i64 0) /\ w = w' := by
 have hk : decide (1 <= s /\ s <= 9) = false := by simpa using h
 clear h
 go_enter Tryz.func58, Tryz.ntmps58
 go_wp2_with (go_at_call 57; refine (known_any _ _).mono ?_; rintro en w' ⟨rfl, rfl⟩)
 go_ret
 exact ⟨rfl, rfl⟩
theorem next_none (s e : Int) (same : Bool) (w : World) (h1 : ¬(1 <= e /\ e <= 10)) (h2 : ¬ (20 <= e /\ e <= 26)) (hs : 1 <= s /\ s <= 9) :
  Calls Tryz.prog 58 #[.int .i64 s, .int .i64 e, .bool same] w fun en w' => en = .returned (.int .i64 0) /\ w = w' := by
 have hk : decide (1 <= s /\ s <= 9) = true := by simpa using hs
 by_cases h3 : 1 <= e <;> by_cases h4 : 20 <= e
 all_goals
  go_enter Tryz.func58, Tryz.ntmps58
  go_wp2_with (go_at_call 57; refine (known_any _ _).mono ?_; rintro en w' ⟨rfl, rfl⟩)
  all_goals (go_ret; exact ⟨rfl, rfl⟩)
theorem next_ev (s e : Int) (same : Bool) (v : Int) (w : World) (hs : 1 <= s /\ s <= 9) (he : 1 <= e) (he2 : e <= 10)
  (hc : w.cell? ⟨0, (e.toNat - 1) * 10 + s.toNat, none⟩ = some (.int .i64 v)) :
  Calls Tryz.prog 58 #[.int .i64 s, .int .i64 e, .bool same] w fun en w' => en = .returned (.int .i64 v) /\ w = w' := by
 have hk : decide (1 <= s /\ s <= 9) = true := by simpa using hs
 have hne : (e - 1 == 16) = false := by simp; omega
 have hs1 := hs.1; have hs2 := hs.2; clear hs
 go_enter Tryz.func58, Tryz.ntmps58
 go_wp2_with (go_at_call 57; refine (known_any _ _).mono ?_; rintro en w' ⟨rfl, rfl⟩)
 go_ret
 exact ⟨rfl, rfl⟩
theorem next_code (s e : Int) (same : Bool) (v : Int) (w : World) (hs : 1 <= s /\ s <= 9) (he : 20 <= e) (he2 : e <= 25)
  (hc : w.cell? ⟨0, (e.toNat - 10) * 10 + s.toNat, none⟩ = some (.int .i64 v)) :
  Calls Tryz.prog 58 #[.int .i64 s, .int .i64 e, .bool same] w fun en w' => en = .returned (.int .i64 v) /\ w = w' := by
 have hk : decide (1 <= s /\ s <= 9) = true := by simpa using hs
 have hne : (10 + e - 20 == 16) = false := by simp; omega
 have hs1 := hs.1; have hs2 := hs.2; clear hs; have ho : (10 + e - 20).toNat = e.toNat - 10 := by omega
 go_enter Tryz.func58, Tryz.ntmps58
 go_wp2_with (go_at_call 57; refine (known_any _ _).mono ?_; rintro en w' ⟨rfl, rfl⟩)
 go_ret
 exact ⟨rfl, rfl⟩
theorem next_s1 (s : Int) (same : Bool) (w : World) (hs : 1 <= s /\ s <= 9) (hc : PortTab w) :
  Calls Tryz.prog 58 #[.int .i64 s, .int .i64 26, .bool same] w fun en w' => en = .returned (.int .i64 (PortLaw.nxt s 26 same)) /\ w = w' := by
 rcases PortLaw.cases9 s hs with rfl | rfl | rfl | rfl | rfl | rfl | rfl | rfl | rfl
 all_goals
  have h0 := hc 161 (by omega)
  have h1 := hc 162 (by omega)
  have h2 := hc 163 (by omega)
  have h3 := hc 164 (by omega)
  have h4 := hc 165 (by omega)
  have h5 := hc 166 (by omega)
  have h6 := hc 167 (by omega)
  have h7 := hc 168 (by omega)
  have h8 := hc 169 (by omega)
  clear hc; cases same
 all_goals
  go_enter Tryz.func58, Tryz.ntmps58
  go_wp2_with (go_at_call 57; refine (known_any _ _).mono ?_; rintro en w' ⟨rfl, rfl⟩)
  go_ret
  exact ⟨rfl, rfl⟩
theorem next_any (s e : Int) (same : Bool) (w : World) (hc : PortTab w) :
  Calls Tryz.prog 58 #[.int .i64 s, .int .i64 e, .bool same] w fun en w' => en = .returned (.int .i64 (PortLaw.nxt s e same)) /\ w = w' := by
 by_cases hs : 1 <= s /\ s <= 9
 ·by_cases h1 : 1 <= e /\ e <= 10
  ·refine (next_ev s e same _ w hs h1.1 h1.2 (hc _ (by omega))).mono fun en w' h => ?_
   simpa [PortLaw.nxt, hs, h1] using h
  ·by_cases h2 : 20 <= e /\ e <= 26
   ·by_cases h3 : e = 26
    ·subst h3; exact next_s1 s same w hs hc
    ·refine (next_code s e same _ w hs h2.1 (by omega) (hc _ (by omega))).mono fun en w' h => ?_
     simpa [PortLaw.nxt, hs, h1, h2, h3] using h
   ·refine (next_none s e same w h1 h2 hs).mono fun en w' h => ?_
    simpa [PortLaw.nxt, hs, h1, h2] using h
 ·refine (next_no s e same w hs).mono fun en w' h => ?_
  simpa [PortLaw.nxt, hs] using h
theorem portTab_of {w : World} (h : TabsIn tabs2 w) : PortTab w := fun i hi => h (0, cellsP) (lTl _ (lHd ..)) i _ (by
 have hl : PortLaw.tbl.length = 170 := rfl; have hc : cellsP = PortLaw.tbl.map (Value.int .i64) := by kernel_rfl
 rw [hc, lMp, lGe (by omega)]
 simp [List.getD, hl, hi])
end
section
open Go Go.RowKit SX Frm Frn
def nextI (ns : List Int) : Int := PortLaw.nxt (ns.headD 0) (ns.getD 1 0) (decide (ns.getD 2 0 ≠ 0))
def nm69 : Mng := fun f => if f = 69 then fun _ => nextI else nm68 f
theorem but69 : But 69 nm69 nm68 := fun f hf => if_neg hf
def nextE (s e b : E) : E := .app 69 0 [s, e, b]
def spNext : Spc := fun f args hp fs => match args with
 | [.int .i64 s, .int .i64 e, .bool b] => if f = 58 then some ⟨.int .i64 (nextE (canon fs s) (canon fs e) (canon fs b)), hp, fs⟩ else none
 | _ => none
theorem nextE_ev {ρ : Env} (hf : ρ.fn 69 = nm69 69) (s e b : E) : (nextE s e b).ev ρ = PortLaw.nxt (s.ev ρ) (e.ev ρ) (decide (b.ev ρ ≠ 0)) := by
 show ρ.fn 69 0 [s.ev ρ, e.ev ρ, b.ev ρ] = _; rw [hf]; rfl
theorem spNext_ok {ρ : Env} {w0 : World} {M : Nat -> Prop} {gl : Gl} (hf : ρ.fn 69 = nm69 69) (hT : ∀ w', Kept w0 M w' -> TabsIn tabs2 w') : SpecOk Tryz.prog ρ w0 M gl spNext := fun f args hp fs o h β w hh hfs ha hg => by
 unfold spNext at h; split at h
 ·rename_i s e b
  split at h
  ·rename_i hc
   subst hc; obtain rfl := sinj h; have hv : (nextE (canon fs s) (canon fs e) (canon fs b)).ev ρ = PortLaw.nxt (s.ev ρ) (e.ev ρ) (decide (b.ev ρ ≠ 0)) := by rw [nextE_ev hf, canon_ev hfs, canon_ev hfs, canon_ev hfs]
   have hr := PortLaw.nxt_range (s.ev ρ) (e.ev ρ) (decide (b.ev ρ ≠ 0)); refine (next_any (s.ev ρ) (e.ev ρ) (decide (b.ev ρ ≠ 0)) w (portTab_of (hT _ hh.kept))).mono fun x w' ⟨hx, hw⟩ => ?_
   subst hw; refine ⟨β, Ext.refl _ _, Nat.le_refl _, Stay.refl _, hh, hfs, ?_, ?_⟩
   ·show (Lit.int .i64 ((nextE (canon fs s) (canon fs e) (canon fs b)).ev ρ)).wf = true
    rw [hv]; have i1 : IntKind.i64.min = -9223372036854775808 := by decide
    have i2 : IntKind.i64.max = 9223372036854775807 := by decide
    exact (wf_iff .i64 _).2 (by rw [i1, i2]; omega)
   ·rw [hx]
    show Ending.returned (.int .i64 _) = Ending.returned (.int .i64 ((nextE (canon fs s) (canon fs e) (canon fs b)).ev ρ)); rw [hv]
  ·cases h
 ·cases h
end
section
open Go Go.RowKit SX
theorem r_known_any (n : Int) (w : World) : Calls Tryz.prog 59 #[.int .i64 n] w fun e w' => e = .returned (.bool (decide (1 <= n /\ n <= 9))) /\ w = w' := by
 by_cases h1 : 1 <= n <;> by_cases h2 : n <= 9
 all_goals
  go_enter Tryz.func59, Tryz.ntmps59
  go_wp2
  go_ret
  simp [*]
theorem r_active_any (n : Int) (w : World) : Calls Tryz.prog 61 #[.int .i64 n] w fun e w' => e = .returned (.bool (decide (4 <= n /\ n <= 9))) /\ w = w' := by
 by_cases h1 : 4 <= n <;> by_cases h2 : n <= 9
 all_goals
  go_enter Tryz.func61, Tryz.ntmps61
  go_wp2
  go_ret
  simp [*]
theorem r_isEvent_any (n : Int) (w : World) : Calls Tryz.prog 60 #[.int .i64 n] w fun e w' => e = .returned (.bool (PortLaw.isEv n)) /\ w = w' := by
 by_cases h1 : 1 <= n <;> by_cases h2 : n <= 10 <;> by_cases h3 : 20 <= n <;> by_cases h4 : n <= 26
 all_goals
  go_enter Tryz.func60, Tryz.ntmps60
  go_wp2
  try (go_ret; simp [*, PortLaw.isEv])
theorem r_uses_any (n : Int) (w : World) : Calls Tryz.prog 92 #[.int .i64 n] w fun e w' => e = .returned (.bool (decide (n = 8 \/ n = 9))) /\ w = w' := by
 by_cases h1 : n = 8 <;> by_cases h2 : n = 9
 all_goals
  go_enter Tryz.func92, Tryz.ntmps92
  go_wp2
  try (go_ret; simp [*])
theorem r_decided_any (s c : Int) (same : Bool) (w : World) : Calls Tryz.prog 62 #[.int .i64 s, .int .i64 c, .bool same] w fun e w' => e = .returned (.int .i64 (PortLaw.rdec s c same)) /\ w = w' := by
 go_enter Tryz.func62, Tryz.ntmps62
 go_wp2_with (go_at_call 92; refine (r_uses_any _ _).mono ?_; rintro en w' ⟨rfl, rfl⟩)
 all_goals (go_ret; go_light; refine ⟨ret_int ?_, rfl⟩; grind [PortLaw.rdec])
theorem r_next_any (s e : Int) (same : Bool) (w : World) : Calls Tryz.prog 27 #[.int .i64 s, .int .i64 e, .bool same] w fun en w' => en = .returned (.int .i64 (PortLaw.rnxt s e same)) /\ w = w' := by
 by_cases hs : 1 <= s /\ s <= 9
 ·have hk : decide (1 <= s /\ s <= 9) = true := by simpa using hs
  cases hi : PortLaw.isEv e
  ·have hr : PortLaw.rnxt s e same = 0 := by simp [PortLaw.rnxt, hi]
   rw [hr]; clear hs hr
   go_enter Tryz.func27, Tryz.ntmps27
   go_wp2_with (first | (go_at_call 59; refine (r_known_any _ _).mono ?_; rintro en w' ⟨rfl, rfl⟩) | (go_at_call 60; refine (r_isEvent_any _ _).mono ?_; rintro en w' ⟨rfl, rfl⟩))
   go_ret
   exact ⟨rfl, rfl⟩
  ·have hr : PortLaw.rnxt s e same = PortLaw.rnxtA s e same := PortLaw.rnxt_in s e same hs hi
   have hle : 1 <= e /\ e <= 26 := PortLaw.isEv_le e hi; obtain ⟨hle1, hle2⟩ := hle; rw [hr]; clear hs hr
   go_enter Tryz.func27, Tryz.ntmps27
   go_wp2_with (first | (go_at_call 59; refine (r_known_any _ _).mono ?_; rintro en w' ⟨rfl, rfl⟩) | (go_at_call 60; refine (r_isEvent_any _ _).mono ?_; rintro en w' ⟨rfl, rfl⟩) | (go_at_call 61; refine (r_active_any _ _).mono ?_; rintro en w' ⟨rfl, rfl⟩) | (go_at_call 62; refine (r_decided_any _ _ _ _).mono ?_; rintro en w' ⟨rfl, rfl⟩))
   all_goals (go_ret; go_light; refine ⟨ret_int ?_, rfl⟩; grind [PortLaw.rnxtA])
 ·have hk : decide (1 <= s /\ s <= 9) = false := by simpa using hs
  have hr : PortLaw.rnxt s e same = 0 := by simp [PortLaw.rnxt, hs]
  rw [hr]; clear hs hr
  go_enter Tryz.func27, Tryz.ntmps27
  go_wp2_with (go_at_call 59; refine (r_known_any _ _).mono ?_; rintro en w' ⟨rfl, rfl⟩)
  go_ret
  exact ⟨rfl, rfl⟩
theorem r_nxt_any (s e : Int) (same : Bool) (w : World) : Calls Tryz.prog 27 #[.int .i64 s, .int .i64 e, .bool same] w fun en w' => en = .returned (.int .i64 (PortLaw.nxt s e same)) /\ w' = w := by
 rw [<- PortLaw.rnxt_eq]; exact (r_next_any s e same w).mono fun en w' h => ⟨h.1, h.2.symm⟩
theorem r_nxtl_any (s e : Int) (same : Bool) (w : World) : Calls Tryz.prog 27 #[.int .i64 s, .int .i64 e, .bool same] w fun en w' => en = .returned (.int .i64 (PortLaw.nxt s e same)) /\ w = w' :=
 (r_nxt_any s e same w).mono fun en w' h => ⟨h.1, h.2.symm⟩
end
section
open Go Go.RowKit SX Frm Frn
def spNextR : Spc := fun f args hp fs => match args with
 | [.int .i64 s, .int .i64 e, .bool b] => if f = 27 then some ⟨.int .i64 (nextE (canon fs s) (canon fs e) (canon fs b)), hp, fs⟩ else none
 | _ => none
theorem spNextR_ok {ρ : Env} {w0 : World} {M : Nat -> Prop} {gl : Gl} (hf : ρ.fn 69 = nm69 69) : SpecOk Tryz.prog ρ w0 M gl spNextR := fun f args hp fs o h β w hh hfs ha hg => by
 unfold spNextR at h; split at h
 ·rename_i s e b
  split at h
  ·rename_i hc
   subst hc; obtain rfl := sinj h; have hv : (nextE (canon fs s) (canon fs e) (canon fs b)).ev ρ = PortLaw.nxt (s.ev ρ) (e.ev ρ) (decide (b.ev ρ ≠ 0)) := by rw [nextE_ev hf, canon_ev hfs, canon_ev hfs, canon_ev hfs]
   have hr := PortLaw.nxt_range (s.ev ρ) (e.ev ρ) (decide (b.ev ρ ≠ 0)); refine (r_nxtl_any (s.ev ρ) (e.ev ρ) (decide (b.ev ρ ≠ 0)) w).mono fun x w' ⟨hx, hw⟩ => ?_
   subst hw; refine ⟨β, Ext.refl _ _, Nat.le_refl _, Stay.refl _, hh, hfs, ?_, ?_⟩
   ·show (Lit.int .i64 ((nextE (canon fs s) (canon fs e) (canon fs b)).ev ρ)).wf = true
    rw [hv]; have i1 : IntKind.i64.min = -9223372036854775808 := by decide
    have i2 : IntKind.i64.max = 9223372036854775807 := by decide
    exact (wf_iff .i64 _).2 (by rw [i1, i2]; omega)
   ·rw [hx]
    show Ending.returned (.int .i64 _) = Ending.returned (.int .i64 ((nextE (canon fs s) (canon fs e) (canon fs b)).ev ρ)); rw [hv]
  ·cases h
 ·cases h
end
end
end Go.Proofs.YtfcpmapfhgibpaaGreatDoor
