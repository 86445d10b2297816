/- Package dataset. -/
import Derived.Laws.BitsAllLaws
import Derived.Laws.BitsLemmas
import Derived.WalkKit
import Derived.Test.YtfcpmapfhgibpaaGreatDoorWb
import Derived.Test.YtfcpmapfhgibpaaGreatDoorRows
import Derived.Test.YtfcpmapfhgibpaaGreatDoorWe
import Derived.ProofKit
import Derived.WalkLawsBesides
import Derived.Outline
import Derived.Deep.Light
import Derived.Lib.Hide
import Derived.Deep.QuietTactic
import Derived.BigQuiet
import Derived.Deep.RegionHeld3
import Derived.Deep.MidRow
import Derived.Laws.EntriesVeiled
set_option linter.unusedVariables false
set_option linter.unusedSimpArgs false
set_option maxRecDepth 1000000
namespace Go.Proofs.YtfcpmapfhgibpaaGreatDoor
namespace DsLaw
theorem lexF_less (a b : DS) : lexF a b 0 11 = if lexF a b 0 6 = 0 then (if cmpI a.steps b.steps = 0 then (if cmpI a.snd b.snd = 0 then (if cmpI a.sp b.sp = 0 then (if cmpI a.rcv b.rcv = 0 then cmpI a.rp b.rp else cmpI a.rcv b.rcv) else cmpI a.sp b.sp) else cmpI a.snd b.snd) else cmpI a.steps b.steps) else lexF a b 0 6 := by
 rw [show (11 : Nat) = 6 + 5 from rfl, lexF_split]; have e : F 6 = 6 /\ F 7 = 7 /\ F 8 = 8 /\ F 9 = 9 /\ F 10 = 10 := by decide
 have h5 : lexF a b (0 + 6) 5 = if cmpI a.steps b.steps = 0 then (if cmpI a.snd b.snd = 0 then (if cmpI a.sp b.sp = 0 then (if cmpI a.rcv b.rcv = 0 then cmpI a.rp b.rp else cmpI a.rcv b.rcv) else cmpI a.sp b.sp) else cmpI a.snd b.snd) else cmpI a.steps b.steps := by
  rw [Nat.zero_add]; unfold lexF lexF lexF lexF lexF lexF; rw [e.1, e.2.1, e.2.2.1, e.2.2.2.1, e.2.2.2.2]; show (if cmpI a.steps b.steps = 0 then (if cmpI a.snd b.snd = 0 then (if cmpI a.sp b.sp = 0 then (if cmpI a.rcv b.rcv = 0 then (if cmpI a.rp b.rp = 0 then 0 else cmpI a.rp b.rp) else cmpI a.rcv b.rcv) else cmpI a.sp b.sp) else cmpI a.snd b.snd) else cmpI a.steps b.steps) = _
  repeat' split
  all_goals first | rfl | simp_all
 rw [h5]
end DsLaw
section
open DsLaw (I64 U64)
theorem nat_xor63 (a : Nat) (h : a < 2 ^ 64) : a ^^^ 2 ^ 63 = if a < 2 ^ 63 then a + 2 ^ 63 else a - 2 ^ 63 := by
 have h1 : (a ^^^ 2 ^ 63) % 2 ^ 63 = a % 2 ^ 63 := by
  rw [Nat.xor_mod_two_pow, Nat.mod_self, Nat.xor_zero]
 have h2 : (a ^^^ 2 ^ 63) / 2 ^ 63 = a / 2 ^ 63 ^^^ 1 := by
  rw [Nat.xor_div_two_pow, Nat.div_self (by omega)]
 by_cases hl : a < 2 ^ 63
 ·rw [if_pos hl]
  rw [Nat.div_eq_of_lt hl] at h2; have : (0 ^^^ 1 : Nat) = 1 := rfl; omega
 ·rw [if_neg hl]
  have h3 : a / 2 ^ 63 = 1 := by omega
  rw [h3] at h2; have : (1 ^^^ 1 : Nat) = 0 := rfl; omega
theorem xor63 (n : Int) (h : I64 n) : bits .xor .u64 (IntKind.u64.wrap n) 9223372036854775808 = DsLaw.up n := by
 have hw : IntKind.u64.wrap n = n % 18446744073709551616 := by simp [IntKind.wrap, IntKind.bits, IntKind.signed]
 unfold I64 at h; rw [hw, u64_xor _ _ (by omega) (by omega) (by omega) (by omega)]
 have e : (9223372036854775808 : Int).toNat = 2 ^ 63 := by decide
 rw [e, nat_xor63 _ (by omega)]
 unfold DsLaw.up; split <;> omega
end
section
open Go.RowKit
open DsLaw (I64 U64 cmpI lexF lt rk)
theorem isNaN_any (x : Int) (w : World) : Calls Tryz.prog 143 #[.int .u64 x] w fun e w' => e = .returned (.bool false) /\ w = w' := by
 go_enter Tryz.func143, Tryz.ntmps143
 go_wp2
 go_ret
 simp
theorem cmpU_any (x y : Int) (w : World) : Calls Tryz.prog 137 #[.int .u64 x, .int .u64 y] w fun e w' => e = .returned (.int .i64 (cmpI x y)) /\ w = w' := by
 rcases DsLaw.cmpI_cases x y with ⟨h, g⟩ | ⟨h, rfl⟩ | ⟨h, g⟩
 all_goals
  rw [h]; clear h
  go_enter Tryz.func137, Tryz.ntmps137
  go_wp2_with (go_at_call 143; refine (isNaN_any _ _).mono ?_; rintro en w' ⟨rfl, rfl⟩)
  go_ret
  exact ⟨rfl, rfl⟩
theorem rank_any (d : DS) (hd : DsLaw.Ok d) (i : Nat) (hi : i < 11) (w : World) : Calls Tryz.prog 123 #[(.agg #[.int .i64 d.p1, .int .i64 d.cls, .int .i64 d.acc, .int .i64 d.vr, .int .i64 d.p2, .int .u64 d.gm, .int .i64 d.steps, .int .u64 d.snd, .int .i64 d.sp, .int .u64 d.rcv, .int .i64 d.rp]), .int .i64 i] w fun e w' => e = .returned (.int .u64 (rk d i)) /\ Below w.heap.size w w' := by
 match i, hi with
 | 0, _ =>
  have hx := Lib.hid (xor63 _ hd.p1)
  go_enter Tryz.func123, Tryz.ntmps123
  go_wp2
  go_ret
  exact ⟨ret_int hx.out, (Below.refl _ _).alloc (Nat.le_refl _) _⟩
 | 1, _ =>
  have hx := Lib.hid (xor63 _ hd.cls)
  go_enter Tryz.func123, Tryz.ntmps123
  go_wp2
  go_ret
  exact ⟨ret_int hx.out, (Below.refl _ _).alloc (Nat.le_refl _) _⟩
 | 2, _ =>
  have hx := Lib.hid (xor63 _ hd.acc)
  go_enter Tryz.func123, Tryz.ntmps123
  go_wp2
  go_ret
  exact ⟨ret_int hx.out, (Below.refl _ _).alloc (Nat.le_refl _) _⟩
 | 3, _ =>
  have hx := Lib.hid (xor63 _ hd.vr)
  go_enter Tryz.func123, Tryz.ntmps123
  go_wp2
  go_ret
  exact ⟨ret_int hx.out, (Below.refl _ _).alloc (Nat.le_refl _) _⟩
 | 4, _ =>
  have hx := Lib.hid (xor63 _ hd.p2)
  go_enter Tryz.func123, Tryz.ntmps123
  go_wp2
  go_ret
  exact ⟨ret_int hx.out, (Below.refl _ _).alloc (Nat.le_refl _) _⟩
 | 5, _ =>
  go_enter Tryz.func123, Tryz.ntmps123
  go_wp2
  go_ret
  exact ⟨rfl, (Below.refl _ _).alloc (Nat.le_refl _) _⟩
 | 6, _ =>
  have hx := Lib.hid (xor63 _ hd.steps)
  go_enter Tryz.func123, Tryz.ntmps123
  go_wp2
  go_ret
  exact ⟨ret_int hx.out, (Below.refl _ _).alloc (Nat.le_refl _) _⟩
 | 7, _ =>
  go_enter Tryz.func123, Tryz.ntmps123
  go_wp2
  go_ret
  exact ⟨rfl, (Below.refl _ _).alloc (Nat.le_refl _) _⟩
 | 8, _ =>
  have hx := Lib.hid (xor63 _ hd.sp)
  go_enter Tryz.func123, Tryz.ntmps123
  go_wp2
  go_ret
  exact ⟨ret_int hx.out, (Below.refl _ _).alloc (Nat.le_refl _) _⟩
 | 9, _ =>
  go_enter Tryz.func123, Tryz.ntmps123
  go_wp2
  go_ret
  exact ⟨rfl, (Below.refl _ _).alloc (Nat.le_refl _) _⟩
 | 10, _ =>
  have hx := Lib.hid (xor63 _ hd.rp)
  go_enter Tryz.func123, Tryz.ntmps123
  go_wp2
  go_ret
  exact ⟨ret_int hx.out, (Below.refl _ _).alloc (Nat.le_refl _) _⟩
def Fields (w : World) : Prop := ∀ i : Nat, i < 14 -> w.cell? ⟨1, i, none⟩ = some (.int .i64 (DsLaw.F i : Nat))
theorem Fields.lt {w : World} (h : Fields w) : 1 < w.heap.size := block_lt_of_cell (h 0 (by omega))
theorem Fields.below {w w' : World} (h : Fields w) {B : Nat} (hb : Below B w w') (hB : 1 < B) : Fields w' := fun i hi => (hb.cell (p := ⟨_, i, none⟩) hB).trans (h i hi)
theorem Fields.alloc {w : World} (h : Fields w) (o : Obj) : Fields (w.alloc o) := fun i hi => (World.cell?_alloc_lt w o _ (block_lt_of_cell (h i hi))).trans (h i hi)
theorem F_lt (k : Nat) : DsLaw.F k < 11 := by
 by_cases h : k < 14
 ·have : ∀ k : Fin 14, DsLaw.F k < 11 := by decide
  exact this ⟨k, h⟩
 ·have : DsLaw.F k = 0 := by unfold DsLaw.F; rw [gDe, lNo (by simp [DsLaw.FL]; omega)]; rfl
  omega
def CInv (a b : DS) (k : Nat) (w wr : World) : Prop :=
 wr.cell? ⟨w.heap.size, 0, none⟩ = some (.func (.func 123) #[] #[]) /\ (wr.cell? ⟨w.heap.size + 1, 0, none⟩ = some (.int .i64 a.p1) ∧ wr.cell? ⟨w.heap.size + 1, 1, none⟩ = some (.int .i64 a.cls) ∧ wr.cell? ⟨w.heap.size + 1, 2, none⟩ = some (.int .i64 a.acc) ∧ wr.cell? ⟨w.heap.size + 1, 3, none⟩ = some (.int .i64 a.vr) ∧ wr.cell? ⟨w.heap.size + 1, 4, none⟩ = some (.int .i64 a.p2) ∧ wr.cell? ⟨w.heap.size + 1, 5, none⟩ = some (.int .u64 a.gm) ∧ wr.cell? ⟨w.heap.size + 1, 6, none⟩ = some (.int .i64 a.steps) ∧ wr.cell? ⟨w.heap.size + 1, 7, none⟩ = some (.int .u64 a.snd) ∧ wr.cell? ⟨w.heap.size + 1, 8, none⟩ = some (.int .i64 a.sp) ∧ wr.cell? ⟨w.heap.size + 1, 9, none⟩ = some (.int .u64 a.rcv) ∧ wr.cell? ⟨w.heap.size + 1, 10, none⟩ = some (.int .i64 a.rp)) /\ (wr.cell? ⟨w.heap.size + 1 + 1, 0, none⟩ = some (.int .i64 b.p1) ∧ wr.cell? ⟨w.heap.size + 1 + 1, 1, none⟩ = some (.int .i64 b.cls) ∧ wr.cell? ⟨w.heap.size + 1 + 1, 2, none⟩ = some (.int .i64 b.acc) ∧ wr.cell? ⟨w.heap.size + 1 + 1, 3, none⟩ = some (.int .i64 b.vr) ∧ wr.cell? ⟨w.heap.size + 1 + 1, 4, none⟩ = some (.int .i64 b.p2) ∧ wr.cell? ⟨w.heap.size + 1 + 1, 5, none⟩ = some (.int .u64 b.gm) ∧ wr.cell? ⟨w.heap.size + 1 + 1, 6, none⟩ = some (.int .i64 b.steps) ∧ wr.cell? ⟨w.heap.size + 1 + 1, 7, none⟩ = some (.int .u64 b.snd) ∧ wr.cell? ⟨w.heap.size + 1 + 1, 8, none⟩ = some (.int .i64 b.sp) ∧ wr.cell? ⟨w.heap.size + 1 + 1, 9, none⟩ = some (.int .u64 b.rcv) ∧ wr.cell? ⟨w.heap.size + 1 + 1, 10, none⟩ = some (.int .i64 b.rp)) /\
  wr.cell? ⟨1, k, none⟩ = some (.int .i64 (DsLaw.F k : Nat)) /\ w.heap.size + 3 <= wr.heap.size /\ 1 < w.heap.size /\ Below w.heap.size w wr
theorem rangeAt_below {w w' : World} {b o : Nat} {cs : List Value} (h : w.rangeAt b o cs) {B : Nat} (hb : Below B w w') (hB : b < B) : w'.rangeAt b o cs := fun j v hv => (hb.cell (p := ⟨b, _, none⟩) hB).trans (h j v hv)
theorem rangeAt_new (w : World) (t : TypeId) (cs : List Value) (n : Nat) (hn : n = w.heap.size) : (w.alloc (.cells cs.toArray t)).rangeAt n 0 cs := fun j v hv => by
 subst hn; rw [World.cell?_alloc_new]; simpa using hv
theorem rangeAt_alloc {w : World} {b o : Nat} {cs : List Value} (h : w.rangeAt b o cs) (hb : b < w.heap.size) (ob : Obj) : (w.alloc ob).rangeAt b o cs := fun j v hv => (World.cell?_alloc_lt w ob _ hb).trans (h j v hv)
def RInv (a b : DS) (k : Nat) (w wr : World) : Prop :=
 wr.cell? ⟨w.heap.size, 0, none⟩ = some (.func (.func 123) #[] #[]) /\ wr.rangeAt (w.heap.size + 1) 0 [.int .i64 a.p1, .int .i64 a.cls, .int .i64 a.acc, .int .i64 a.vr, .int .i64 a.p2, .int .u64 a.gm, .int .i64 a.steps, .int .u64 a.snd, .int .i64 a.sp, .int .u64 a.rcv, .int .i64 a.rp] /\ wr.rangeAt (w.heap.size + 1 + 1) 0 [.int .i64 b.p1, .int .i64 b.cls, .int .i64 b.acc, .int .i64 b.vr, .int .i64 b.p2, .int .u64 b.gm, .int .i64 b.steps, .int .u64 b.snd, .int .i64 b.sp, .int .u64 b.rcv, .int .i64 b.rp] /\
  wr.cell? ⟨1, k, none⟩ = some (.int .i64 (DsLaw.F k : Nat)) /\ w.heap.size + 3 <= wr.heap.size /\ 1 < w.heap.size /\ Below w.heap.size w wr
theorem rangeAt_ds (w : World) (g : Nat) (a : DS) : w.rangeAt g 0 [.int .i64 a.p1, .int .i64 a.cls, .int .i64 a.acc, .int .i64 a.vr, .int .i64 a.p2, .int .u64 a.gm, .int .i64 a.steps, .int .u64 a.snd, .int .i64 a.sp, .int .u64 a.rcv, .int .i64 a.rp] ↔ (w.cell? ⟨g, 0, none⟩ = some (.int .i64 a.p1) ∧ w.cell? ⟨g, 1, none⟩ = some (.int .i64 a.cls) ∧ w.cell? ⟨g, 2, none⟩ = some (.int .i64 a.acc) ∧ w.cell? ⟨g, 3, none⟩ = some (.int .i64 a.vr) ∧ w.cell? ⟨g, 4, none⟩ = some (.int .i64 a.p2) ∧ w.cell? ⟨g, 5, none⟩ = some (.int .u64 a.gm) ∧ w.cell? ⟨g, 6, none⟩ = some (.int .i64 a.steps) ∧ w.cell? ⟨g, 7, none⟩ = some (.int .u64 a.snd) ∧ w.cell? ⟨g, 8, none⟩ = some (.int .i64 a.sp) ∧ w.cell? ⟨g, 9, none⟩ = some (.int .u64 a.rcv) ∧ w.cell? ⟨g, 10, none⟩ = some (.int .i64 a.rp)) := by
 constructor
 ·intro h
  exact ⟨h 0 _ rfl, h 1 _ rfl, h 2 _ rfl, h 3 _ rfl, h 4 _ rfl, h 5 _ rfl, h 6 _ rfl, h 7 _ rfl, h 8 _ rfl, h 9 _ rfl, h 10 _ rfl⟩
 ·rintro ⟨h0, h1, h2, h3, h4, h5, h6, h7, h8, h9, h10⟩ j v hv
  match j, hv with
  | 0, hv => cases hv; exact h0
  | 1, hv => cases hv; exact h1
  | 2, hv => cases hv; exact h2
  | 3, hv => cases hv; exact h3
  | 4, hv => cases hv; exact h4
  | 5, hv => cases hv; exact h5
  | 6, hv => cases hv; exact h6
  | 7, hv => cases hv; exact h7
  | 8, hv => cases hv; exact h8
  | 9, hv => cases hv; exact h9
  | 10, hv => cases hv; exact h10
theorem RInv.iff (a b : DS) (k : Nat) (w wr : World) : RInv a b k w wr ↔ CInv a b k w wr := by
 unfold RInv CInv; rw [rangeAt_ds, rangeAt_ds]
theorem RInv.step {a b : DS} {k : Nat} {w W w1 : World} (h : RInv a b k w W) (hb : Below W.heap.size W w1) : RInv a b k w w1 := by
 obtain ⟨h1, h2, h3, h4, h5, h6, h7⟩ := h
 exact ⟨(hb.cell (p := ⟨w.heap.size, 0, none⟩) (show w.heap.size < W.heap.size by omega)).trans h1, rangeAt_below h2 hb (by omega), rangeAt_below h3 hb (by omega), (hb.cell (p := ⟨1, k, none⟩) (show 1 < W.heap.size by omega)).trans h4, Nat.le_trans h5 hb.size, h6,
  h7.trans (hb.mono (by omega))⟩
theorem CInv.step {a b : DS} {k : Nat} {w W w1 : World} (h : CInv a b k w W) (hb : Below W.heap.size W w1) : CInv a b k w w1 :=
 (RInv.iff ..).1 (((RInv.iff ..).2 h).step hb)
set_option maxHeartbeats 1000000 in
theorem ocmp_any (a b : DS) (ha : DsLaw.Ok a) (hb : DsLaw.Ok b) (m n : Nat) (hmn : m + n <= 14) (w : World) (hF : Fields w) :
  Calls Tryz.prog 124 #[.agg #[.func (.func 123) #[] #[]], (.agg #[.int .i64 a.p1, .int .i64 a.cls, .int .i64 a.acc, .int .i64 a.vr, .int .i64 a.p2, .int .u64 a.gm, .int .i64 a.steps, .int .u64 a.snd, .int .i64 a.sp, .int .u64 a.rcv, .int .i64 a.rp]), (.agg #[.int .i64 b.p1, .int .i64 b.cls, .int .i64 b.acc, .int .i64 b.vr, .int .i64 b.p2, .int .u64 b.gm, .int .i64 b.steps, .int .u64 b.snd, .int .i64 b.sp, .int .u64 b.rcv, .int .i64 b.rp]), .int .i64 m, .int .i64 (m + n : Nat)] w fun e w' => e = .returned (.int .i64 (lexF a b m n)) /\ Below w.heap.size w w' := by
 obtain ⟨q, hq⟩ : ∃ q, q = m + n := ⟨_, rfl⟩; rw [<- hq]; have hqn : q <= 14 := by omega
 have hmq : m <= q := by omega
 have hn : n = q - m := by omega
 subst hn; clear hq hmn; have HF := Lib.hid hF; clear hF
 go_enter Tryz.func124, Tryz.ntmps124
 go_wp2
 go_loopw [11] (fun i wr => ∃ k : Nat, m <= k /\ k <= q /\ i = .int .i64 k /\ lexF a b m (q - m) = lexF a b k (q - k) /\ CInv a b 0 w wr) (fun i _ => q - (intOf i).toNat)
 case atStart =>
  have h0 := HF.out.lt; refine ⟨m, Nat.le_refl _, hmq, rfl, rfl, (RInv.iff ..).1 ⟨?_, ?_, ?_, ((HF.out.alloc _).alloc _).alloc _ 0 (by omega), by simp, h0, (((Below.refl _ _).alloc (Nat.le_refl _) _).alloc (by simp) _).alloc (by simp; omega) _⟩⟩
  ·simp [go_sem]
  ·exact rangeAt_alloc (rangeAt_new (w.alloc _) _ [.int .i64 a.p1, .int .i64 a.cls, .int .i64 a.acc, .int .i64 a.vr, .int .i64 a.p2, .int .u64 a.gm, .int .i64 a.steps, .int .u64 a.snd, .int .i64 a.sp, .int .u64 a.rcv, .int .i64 a.rp] _ (by simp)) (by simp) _
  ·exact rangeAt_new ((w.alloc _).alloc _) _ [.int .i64 b.p1, .int .i64 b.cls, .int .i64 b.acc, .int .i64 b.vr, .int .i64 b.p2, .int .u64 b.gm, .int .i64 b.steps, .int .u64 b.snd, .int .i64 b.sp, .int .u64 b.rcv, .int .i64 b.rp] _ (by simp)
 case round =>
  obtain ⟨k, hmk, hkq, rfl, hlex, hI0⟩ := hrel; have hbw := hI0.2.2.2.2.2.2
  by_cases hlt : k < q
  ·have hI : CInv a b k w wr := ⟨hI0.1, hI0.2.1, hI0.2.2.1, (HF.out.below hbw HF.out.lt) k (by omega), hI0.2.2.2.2⟩
   have hF0 := HF.out 0 (by omega)
   have hlt' : (k : Int) < (q : Int) := by omega
   have hk14 : (k : Int) < 14 := by omega
   have hk0 : (0 : Int) <= (k : Int) := by omega
   have hcase := Lib.hid (DsLaw.lexF_at a b k q hlt); have HL := Lib.hid hlex; have HI := Lib.hid hI; have HD := Lib.hid (hI.step (below_drewN (Below.refl wr.heap.size wr) 1)); have HF0 := Lib.hid hF0; clear hlex hI0 hI hF0 hbw hmq; have hS := HI.out; unfold CInv at hS
   go_wp2_with fail
   go_region_held3 (fun w' => w'.cell? ⟨w.heap.size, 0, none⟩ = some (.func (.func 123) #[] #[]) /\ (w'.cell? ⟨w.heap.size + 1, 0, none⟩ = some (.int .i64 a.p1) ∧ w'.cell? ⟨w.heap.size + 1, 1, none⟩ = some (.int .i64 a.cls) ∧ w'.cell? ⟨w.heap.size + 1, 2, none⟩ = some (.int .i64 a.acc) ∧ w'.cell? ⟨w.heap.size + 1, 3, none⟩ = some (.int .i64 a.vr) ∧ w'.cell? ⟨w.heap.size + 1, 4, none⟩ = some (.int .i64 a.p2) ∧ w'.cell? ⟨w.heap.size + 1, 5, none⟩ = some (.int .u64 a.gm) ∧ w'.cell? ⟨w.heap.size + 1, 6, none⟩ = some (.int .i64 a.steps) ∧ w'.cell? ⟨w.heap.size + 1, 7, none⟩ = some (.int .u64 a.snd) ∧ w'.cell? ⟨w.heap.size + 1, 8, none⟩ = some (.int .i64 a.sp) ∧ w'.cell? ⟨w.heap.size + 1, 9, none⟩ = some (.int .u64 a.rcv) ∧ w'.cell? ⟨w.heap.size + 1, 10, none⟩ = some (.int .i64 a.rp)) /\ (w'.cell? ⟨w.heap.size + 1 + 1, 0, none⟩ = some (.int .i64 b.p1) ∧ w'.cell? ⟨w.heap.size + 1 + 1, 1, none⟩ = some (.int .i64 b.cls) ∧ w'.cell? ⟨w.heap.size + 1 + 1, 2, none⟩ = some (.int .i64 b.acc) ∧ w'.cell? ⟨w.heap.size + 1 + 1, 3, none⟩ = some (.int .i64 b.vr) ∧ w'.cell? ⟨w.heap.size + 1 + 1, 4, none⟩ = some (.int .i64 b.p2) ∧ w'.cell? ⟨w.heap.size + 1 + 1, 5, none⟩ = some (.int .u64 b.gm) ∧ w'.cell? ⟨w.heap.size + 1 + 1, 6, none⟩ = some (.int .i64 b.steps) ∧ w'.cell? ⟨w.heap.size + 1 + 1, 7, none⟩ = some (.int .u64 b.snd) ∧ w'.cell? ⟨w.heap.size + 1 + 1, 8, none⟩ = some (.int .i64 b.sp) ∧ w'.cell? ⟨w.heap.size + 1 + 1, 9, none⟩ = some (.int .u64 b.rcv) ∧ w'.cell? ⟨w.heap.size + 1 + 1, 10, none⟩ = some (.int .i64 b.rp)) /\ w'.cell? ⟨1, k, none⟩ = some (.int .i64 (DsLaw.F k : Nat)) /\ w.heap.size + 3 <= w'.heap.size /\ 1 < w.heap.size /\ Below w.heap.size w w')
    (first | assumption | exact HD.out | (show CInv a b k w _; refine CInv.step ?_ hb1; assumption))
    (first | (go_at_call 123; (with_reducible refine (rank_any a ha _ (F_lt k) _).mono ?_); rintro e w' ⟨rfl, hb1⟩) | (go_at_call 123; (with_reducible refine (rank_any b hb _ (F_lt k) _).mono ?_); rintro e w' ⟨rfl, hb1⟩) | (go_at_call 137; refine (cmpU_any _ _ _).mono ?_; rintro e w' ⟨rfl, rfl⟩))
   have hfin : CInv a b k w w' := by assumption
   have HFin := Lib.hid hfin; have HB := Lib.hid hfin.2.2.2.2.2.2; clear hfin; rename_i hh1 hh2; clear hh1 hh2 hb1 hS HI HD; rcases hcase.out with ⟨hc, hl⟩ | ⟨hc, hl⟩
   ·go_wp2
    go_roundw
    case rel =>
     refine ⟨k + 1, by omega, by omega, by go_num, by rw [HL.out, hl], ?_⟩
     have hI := HFin.out; exact ⟨hI.1, hI.2.1, hI.2.2.1, (HF.out.below hI.2.2.2.2.2.2 HF.out.lt) 0 (by omega), hI.2.2.2.2⟩
    case measure => simp [intOf]; omega
   ·go_wp2
    go_ret
    exact ⟨ret_int (by rw [HL.out, hl]), HB.out⟩
  ·have hk : k = q := by omega
   subst hk; have HB := Lib.hid hbw; have HL := Lib.hid hlex; clear hI0 hbw hlex
   go_wp2
   go_ret
   exact ⟨ret_int (by rw [HL.out, Nat.sub_self]; rfl), HB.out⟩
open DsLaw (I64 U64 cmpI lexF lt rk)
theorem ocmp11 (a b : DS) (ha : DsLaw.Ok a) (hb : DsLaw.Ok b) (w : World) (hF : Fields w) :
  Calls Tryz.prog 124 #[.agg #[.func (.func 123) #[] #[]], (.agg #[.int .i64 a.p1, .int .i64 a.cls, .int .i64 a.acc, .int .i64 a.vr, .int .i64 a.p2, .int .u64 a.gm, .int .i64 a.steps, .int .u64 a.snd, .int .i64 a.sp, .int .u64 a.rcv, .int .i64 a.rp]), (.agg #[.int .i64 b.p1, .int .i64 b.cls, .int .i64 b.acc, .int .i64 b.vr, .int .i64 b.p2, .int .u64 b.gm, .int .i64 b.steps, .int .u64 b.snd, .int .i64 b.sp, .int .u64 b.rcv, .int .i64 b.rp]), .int .i64 0, .int .i64 11] w fun e w' => e = .returned (.int .i64 (lexF a b 0 11)) /\ Below w.heap.size w w' := ocmp_any a b ha hb 0 11 (by omega) w hF
theorem less_any (a b : DS) (ha : DsLaw.Ok a) (hb : DsLaw.Ok b) (w : World) (hF : Fields w) :
  Calls Tryz.prog 89 #[(.agg #[.int .i64 a.p1, .int .i64 a.cls, .int .i64 a.acc, .int .i64 a.vr, .int .i64 a.p2, .int .u64 a.gm, .int .i64 a.steps, .int .u64 a.snd, .int .i64 a.sp, .int .u64 a.rcv, .int .i64 a.rp]), (.agg #[.int .i64 b.p1, .int .i64 b.cls, .int .i64 b.acc, .int .i64 b.vr, .int .i64 b.p2, .int .u64 b.gm, .int .i64 b.steps, .int .u64 b.snd, .int .i64 b.sp, .int .u64 b.rcv, .int .i64 b.rp])] w fun e w' => e = .returned (.bool (decide (lt a b))) /\ Below w.heap.size w w' := by
 go_enter Tryz.func89, Tryz.ntmps89
 go_wp2_with fail
 refine (ocmp11 a b ha hb _ ((hF.alloc _).alloc _)).mono ?_
 rintro e w1 ⟨rfl, hb1⟩
 go_wp2
 go_ret
 exact ⟨rfl, (((Below.refl _ _).alloc (Nat.le_refl _) _).alloc (by simp) _).trans (hb1.mono (by simp; omega))⟩
open DsLaw (I64 U64 cmpI lexF lt rk)
theorem numbers_any (x y : Int) (w : World) : Calls Tryz.prog 128 #[.int .u64 x, .int .u64 y] w fun e w' => e = .returned (.int .i64 (cmpI x y)) /\ w = w' := by
 rcases DsLaw.cmpI_cases x y with ⟨h, g⟩ | ⟨h, rfl⟩ | ⟨h, g⟩
 all_goals
  rw [h]; clear h
  go_enter Tryz.func128, Tryz.ntmps128
  go_wp2
  go_ret
  exact ⟨rfl, rfl⟩
theorem ints_any (x y : Int) (w : World) : Calls Tryz.prog 127 #[.int .i64 x, .int .i64 y] w fun e w' => e = .returned (.int .i64 (cmpI x y)) /\ w = w' := by
 rcases DsLaw.cmpI_cases x y with ⟨h, g⟩ | ⟨h, rfl⟩ | ⟨h, g⟩
 all_goals
  rw [h]; clear h
  go_enter Tryz.func127, Tryz.ntmps127
  go_wp2
  go_ret
  exact ⟨rfl, rfl⟩
def OInv (a b : DS) (w wr : World) : Prop :=
 (∀ j : Nat, j < 5 -> wr.cell? ⟨w.heap.size + 1 + 1, j, none⟩ = some (.int .i64 (DsLaw.get a j))) /\ (∀ j : Nat, j < 5 -> wr.cell? ⟨w.heap.size + 1 + 1 + 1, j, none⟩ = some (.int .i64 (DsLaw.get b j))) /\
  wr.cell? ⟨w.heap.size, 5, none⟩ = some (.int .u64 a.gm) /\ wr.cell? ⟨w.heap.size + 1, 5, none⟩ = some (.int .u64 b.gm) /\ Below w.heap.size w wr
theorem OInv.drewN {a b : DS} {w wr : World} (h : OInv a b w wr) (n : Nat) : OInv a b w (wr.drewN n) := ⟨h.1, h.2.1, h.2.2.1, h.2.2.2.1, below_drewN h.2.2.2.2 n⟩
theorem OInv.new (a b : DS) (w : World) (t1 t2 t3 t4 : TypeId) : OInv a b w ((((w.alloc (.cells #[.int .i64 a.p1, .int .i64 a.cls, .int .i64 a.acc, .int .i64 a.vr, .int .i64 a.p2, .int .u64 a.gm, .int .i64 a.steps, .int .u64 a.snd, .int .i64 a.sp, .int .u64 a.rcv, .int .i64 a.rp] t1)).alloc (.cells #[.int .i64 b.p1, .int .i64 b.cls, .int .i64 b.acc, .int .i64 b.vr, .int .i64 b.p2, .int .u64 b.gm, .int .i64 b.steps, .int .u64 b.snd, .int .i64 b.sp, .int .u64 b.rcv, .int .i64 b.rp] t2)).alloc (.cells #[.int .i64 a.p1, .int .i64 a.cls, .int .i64 a.acc, .int .i64 a.vr, .int .i64 a.p2] t3)).alloc (.cells #[.int .i64 b.p1, .int .i64 b.cls, .int .i64 b.acc, .int .i64 b.vr, .int .i64 b.p2] t4)) := by
 have hA := fun (o : Obj) => rangeAt_alloc (rangeAt_new ((w.alloc (.cells #[.int .i64 a.p1, .int .i64 a.cls, .int .i64 a.acc, .int .i64 a.vr, .int .i64 a.p2, .int .u64 a.gm, .int .i64 a.steps, .int .u64 a.snd, .int .i64 a.sp, .int .u64 a.rcv, .int .i64 a.rp] t1)).alloc (.cells #[.int .i64 b.p1, .int .i64 b.cls, .int .i64 b.acc, .int .i64 b.vr, .int .i64 b.p2, .int .u64 b.gm, .int .i64 b.steps, .int .u64 b.snd, .int .i64 b.sp, .int .u64 b.rcv, .int .i64 b.rp] t2)) t3 [.int .i64 a.p1, .int .i64 a.cls, .int .i64 a.acc, .int .i64 a.vr, .int .i64 a.p2] _ rfl) (by simp) o
 have hB := rangeAt_new (((w.alloc (.cells #[.int .i64 a.p1, .int .i64 a.cls, .int .i64 a.acc, .int .i64 a.vr, .int .i64 a.p2, .int .u64 a.gm, .int .i64 a.steps, .int .u64 a.snd, .int .i64 a.sp, .int .u64 a.rcv, .int .i64 a.rp] t1)).alloc (.cells #[.int .i64 b.p1, .int .i64 b.cls, .int .i64 b.acc, .int .i64 b.vr, .int .i64 b.p2, .int .u64 b.gm, .int .i64 b.steps, .int .u64 b.snd, .int .i64 b.sp, .int .u64 b.rcv, .int .i64 b.rp] t2)).alloc (.cells #[.int .i64 a.p1, .int .i64 a.cls, .int .i64 a.acc, .int .i64 a.vr, .int .i64 a.p2] t3)) t4 [.int .i64 b.p1, .int .i64 b.cls, .int .i64 b.acc, .int .i64 b.vr, .int .i64 b.p2] _ rfl; refine ⟨fun j hj => ?_, fun j hj => ?_, ?_, ?_, ((((Below.refl _ _).alloc (Nat.le_refl _) _).alloc (by simp) _).alloc (by simp; omega) _).alloc (by simp; omega) _⟩
 ·have := hA (.cells #[.int .i64 b.p1, .int .i64 b.cls, .int .i64 b.acc, .int .i64 b.vr, .int .i64 b.p2] t4) j (.int .i64 (DsLaw.get a j)) (by match j, hj with | 0, _ => rfl | 1, _ => rfl | 2, _ => rfl | 3, _ => rfl | 4, _ => rfl)
  simpa using this
 ·have := hB j (.int .i64 (DsLaw.get b j)) (by match j, hj with | 0, _ => rfl | 1, _ => rfl | 2, _ => rfl | 3, _ => rfl | 4, _ => rfl)
  simpa using this
 ·simp [go_sem]
 ·simp [go_sem]
set_option maxHeartbeats 1000000 in
theorem r_order_any (a b : DS) (w : World) : Calls Tryz.prog 126 #[(.agg #[.int .i64 a.p1, .int .i64 a.cls, .int .i64 a.acc, .int .i64 a.vr, .int .i64 a.p2, .int .u64 a.gm, .int .i64 a.steps, .int .u64 a.snd, .int .i64 a.sp, .int .u64 a.rcv, .int .i64 a.rp]), (.agg #[.int .i64 b.p1, .int .i64 b.cls, .int .i64 b.acc, .int .i64 b.vr, .int .i64 b.p2, .int .u64 b.gm, .int .i64 b.steps, .int .u64 b.snd, .int .i64 b.sp, .int .u64 b.rcv, .int .i64 b.rp])] w fun e w' => e = .returned (.int .i64 (lexF a b 0 6)) /\ Below w.heap.size w w' := by
 go_enter Tryz.func126, Tryz.ntmps126
 go_wp2
 go_loopw [7] (fun i wr => ∃ k : Nat, k <= 5 /\ i = .int .i64 k /\ lexF a b 0 6 = lexF a b k (6 - k) /\ OInv a b w wr) (fun i _ => 5 - (intOf i).toNat)
 case atStart => exact ⟨0, by omega, rfl, rfl, OInv.new a b w _ _ _ _⟩
 case round =>
  obtain ⟨k, hk5, rfl, hlex, hI⟩ := hrel
  by_cases hlt : k < 5
  ·have hx := hI.1 k hlt
   have hy := hI.2.1 k hlt; have hk : (k : Int) < 5 := by omega
   have hk0 : (0 : Int) <= (k : Int) := by omega
   have hstep := DsLaw.lexF_step a b k (6 - (k + 1)); rw [show 6 - (k + 1) + 1 = 6 - k by omega] at hstep
   have HI := Lib.hid hI; have hF : DsLaw.F k = k := by match k, hlt with | 0, _ => rfl | 1, _ => rfl | 2, _ => rfl | 3, _ => rfl | 4, _ => rfl
   rw [hF] at hstep; clear hI hF; rcases DsLaw.cmpI_cases (DsLaw.get a k) (DsLaw.get b k) with ⟨h, g⟩ | ⟨h, g⟩ | ⟨h, g⟩
   ·have HL := Lib.hid (hlex.trans (hstep.2 (by rw [h]; decide)))
    rw [h] at HL; clear hstep hlex h
    go_wp2_with fail
    go_quiet (fail)
    go_wp2
    go_ret
    exact ⟨ret_int HL.out.symm, below_drewN HI.out.2.2.2.2 _⟩
   ·have HL := Lib.hid (hlex.trans (hstep.1 h))
    clear hstep hlex h; rw [<- g] at hy; have HG := Lib.hid g; clear g
    go_wp2_with fail
    go_quiet (fail)
    go_wp2_with fail
    go_quiet (fail)
    go_wp2
    go_roundw
    case rel => exact ⟨k + 1, by omega, by go_num, HL.out, HI.out.drewN _⟩
    case measure => simp [intOf]; omega
   ·have HL := Lib.hid (hlex.trans (hstep.2 (by rw [h]; decide)))
    rw [h] at HL; clear hstep hlex h
    go_wp2_with fail
    go_quiet (fail)
    go_wp2_with fail
    go_quiet (fail)
    go_wp2
    go_ret
    exact ⟨ret_int HL.out.symm, below_drewN (below_drewN HI.out.2.2.2.2 _) _⟩
  ·have hk : k = 5 := by omega
   subst hk; have h1 := hI.2.2.1; have h2 := hI.2.2.2.1; have HL := Lib.hid hlex; have HI := Lib.hid hI; clear hlex hI
   go_wp2_with (go_at_call 128; refine (numbers_any _ _ _).mono ?_; rintro en w' ⟨rfl, rfl⟩)
   go_ret
   exact ⟨ret_int (by rw [HL.out]; exact (DsLaw.lexF_one a b 5).symm), HI.out.2.2.2.2⟩
open DsLaw (I64 U64 cmpI lexF lt rk)
theorem b2 {w w1 : World} {o1 o2 : Obj} (hb1 : Below ((w.alloc o1).alloc o2).heap.size ((w.alloc o1).alloc o2) w1) : Below w.heap.size w w1 :=
 (((Below.refl _ _).alloc (Nat.le_refl _) _).alloc (by simp) _).trans (hb1.mono (by simp; omega))
set_option maxHeartbeats 1000000 in
theorem r_less_any (a b : DS) (w : World) : Calls Tryz.prog 97 #[(.agg #[.int .i64 a.p1, .int .i64 a.cls, .int .i64 a.acc, .int .i64 a.vr, .int .i64 a.p2, .int .u64 a.gm, .int .i64 a.steps, .int .u64 a.snd, .int .i64 a.sp, .int .u64 a.rcv, .int .i64 a.rp]), (.agg #[.int .i64 b.p1, .int .i64 b.cls, .int .i64 b.acc, .int .i64 b.vr, .int .i64 b.p2, .int .u64 b.gm, .int .i64 b.steps, .int .u64 b.snd, .int .i64 b.sp, .int .u64 b.rcv, .int .i64 b.rp])] w fun e w' => e = .returned (.bool (decide (lt a b))) /\ Below w.heap.size w w' := by
 have HE := Lib.hid (DsLaw.lexF_less a b)
 go_enter Tryz.func97, Tryz.ntmps97
 go_wp2_with fail
 refine (r_order_any a b _).mono ?_
 rintro e w1 ⟨rfl, hb1⟩
 have HB := Lib.hid (b2 hb1); obtain ⟨hc, hf⟩ := bcell hb1; clear hb1
 go_wp2_with (first | (go_at_call 128; refine (numbers_any _ _ _).mono ?_; rintro en w' ⟨rfl, rfl⟩) | (go_at_call 127; refine (ints_any _ _ _).mono ?_; rintro en w' ⟨rfl, rfl⟩))
 all_goals (go_ret; go_light; refine ⟨ret_bool (decide_eq_decide.2 ?_), HB.out⟩; have he := HE.out; clear HE HB hc hf; unfold lt; rw [he]; clear he; grind)
end
end Go.Proofs.YtfcpmapfhgibpaaGreatDoor
