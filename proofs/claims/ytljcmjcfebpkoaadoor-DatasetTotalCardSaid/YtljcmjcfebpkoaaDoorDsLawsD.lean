/- The walk of layer 34's law DatasetTotal. -/
import Derived.Test.YtljcmjcfebpkoaaDoorDsIndex
import Derived.Test.YtljcmjcfebpkoaaDoorDsLawM
import Derived.Test.YtljcmjcfebpkoaaDoorHeld
namespace Go.Proofs.YtljcmjcfebpkoaaDoor
set_option linter.unusedVariables false
open Go.RowKit
open DsLaw (I64 U64 cmpI lexF lt rk)

/-- Three boxed data sets. -/
def T3 (a b c : DS) (w W : World) : Prop := (W.cell? ⟨w.heap.size, 0, none⟩ = some (.int .i64 a.p1) ∧ W.cell? ⟨w.heap.size, 1, none⟩ = some (.int .i64 a.cls) ∧ W.cell? ⟨w.heap.size, 2, none⟩ = some (.int .i64 a.acc) ∧ W.cell? ⟨w.heap.size, 3, none⟩ = some (.int .i64 a.vr) ∧ W.cell? ⟨w.heap.size, 4, none⟩ = some (.int .i64 a.p2) ∧ W.cell? ⟨w.heap.size, 5, none⟩ = some (.int .u64 a.gm) ∧ W.cell? ⟨w.heap.size, 6, none⟩ = some (.int .i64 a.steps) ∧ W.cell? ⟨w.heap.size, 7, none⟩ = some (.int .u64 a.snd) ∧ W.cell? ⟨w.heap.size, 8, none⟩ = some (.int .i64 a.sp) ∧ W.cell? ⟨w.heap.size, 9, none⟩ = some (.int .u64 a.rcv) ∧ W.cell? ⟨w.heap.size, 10, none⟩ = some (.int .i64 a.rp)) ∧ (W.cell? ⟨w.heap.size + 1, 0, none⟩ = some (.int .i64 b.p1) ∧ W.cell? ⟨w.heap.size + 1, 1, none⟩ = some (.int .i64 b.cls) ∧ W.cell? ⟨w.heap.size + 1, 2, none⟩ = some (.int .i64 b.acc) ∧ W.cell? ⟨w.heap.size + 1, 3, none⟩ = some (.int .i64 b.vr) ∧ W.cell? ⟨w.heap.size + 1, 4, none⟩ = some (.int .i64 b.p2) ∧ W.cell? ⟨w.heap.size + 1, 5, none⟩ = some (.int .u64 b.gm) ∧ W.cell? ⟨w.heap.size + 1, 6, none⟩ = some (.int .i64 b.steps) ∧ W.cell? ⟨w.heap.size + 1, 7, none⟩ = some (.int .u64 b.snd) ∧ W.cell? ⟨w.heap.size + 1, 8, none⟩ = some (.int .i64 b.sp) ∧ W.cell? ⟨w.heap.size + 1, 9, none⟩ = some (.int .u64 b.rcv) ∧ W.cell? ⟨w.heap.size + 1, 10, none⟩ = some (.int .i64 b.rp)) ∧ (W.cell? ⟨w.heap.size + 1 + 1, 0, none⟩ = some (.int .i64 c.p1) ∧ W.cell? ⟨w.heap.size + 1 + 1, 1, none⟩ = some (.int .i64 c.cls) ∧ W.cell? ⟨w.heap.size + 1 + 1, 2, none⟩ = some (.int .i64 c.acc) ∧ W.cell? ⟨w.heap.size + 1 + 1, 3, none⟩ = some (.int .i64 c.vr) ∧ W.cell? ⟨w.heap.size + 1 + 1, 4, none⟩ = some (.int .i64 c.p2) ∧ W.cell? ⟨w.heap.size + 1 + 1, 5, none⟩ = some (.int .u64 c.gm) ∧ W.cell? ⟨w.heap.size + 1 + 1, 6, none⟩ = some (.int .i64 c.steps) ∧ W.cell? ⟨w.heap.size + 1 + 1, 7, none⟩ = some (.int .u64 c.snd) ∧ W.cell? ⟨w.heap.size + 1 + 1, 8, none⟩ = some (.int .i64 c.sp) ∧ W.cell? ⟨w.heap.size + 1 + 1, 9, none⟩ = some (.int .u64 c.rcv) ∧ W.cell? ⟨w.heap.size + 1 + 1, 10, none⟩ = some (.int .i64 c.rp)) ∧ w.heap.size + 3 ≤ W.heap.size ∧ Below w.heap.size w W
theorem T3.step {a b c : DS} {w W W1 : World} (h : T3 a b c w W) (hb : Below W.heap.size W W1) : T3 a b c w W1 := by
  obtain ⟨h1, h2, h3, h5, h6⟩ := h
  exact ⟨(rangeAt_ds ..).1 (rangeAt_below ((rangeAt_ds ..).2 h1) hb (by omega)), (rangeAt_ds ..).1 (rangeAt_below ((rangeAt_ds ..).2 h2) hb (by omega)), (rangeAt_ds ..).1 (rangeAt_below ((rangeAt_ds ..).2 h3) hb (by omega)), Nat.le_trans h5 hb.size, h6.trans (hb.mono (by omega))⟩
theorem T3.new (a b c : DS) (w : World) (t1 t2 t3 : TypeId) : T3 a b c w (((w.alloc (.cells #[.int .i64 a.p1, .int .i64 a.cls, .int .i64 a.acc, .int .i64 a.vr, .int .i64 a.p2, .int .u64 a.gm, .int .i64 a.steps, .int .u64 a.snd, .int .i64 a.sp, .int .u64 a.rcv, .int .i64 a.rp] t1)).alloc (.cells #[.int .i64 b.p1, .int .i64 b.cls, .int .i64 b.acc, .int .i64 b.vr, .int .i64 b.p2, .int .u64 b.gm, .int .i64 b.steps, .int .u64 b.snd, .int .i64 b.sp, .int .u64 b.rcv, .int .i64 b.rp] t2)).alloc (.cells #[.int .i64 c.p1, .int .i64 c.cls, .int .i64 c.acc, .int .i64 c.vr, .int .i64 c.p2, .int .u64 c.gm, .int .i64 c.steps, .int .u64 c.snd, .int .i64 c.sp, .int .u64 c.rcv, .int .i64 c.rp] t3)) :=
  ⟨(rangeAt_ds ..).1 (rangeAt_alloc (rangeAt_alloc (rangeAt_new _ _ [.int .i64 a.p1, .int .i64 a.cls, .int .i64 a.acc, .int .i64 a.vr, .int .i64 a.p2, .int .u64 a.gm, .int .i64 a.steps, .int .u64 a.snd, .int .i64 a.sp, .int .u64 a.rcv, .int .i64 a.rp] _ rfl) (by simp) _) (by simp; omega) _), (rangeAt_ds ..).1 (rangeAt_alloc (rangeAt_new _ _ [.int .i64 b.p1, .int .i64 b.cls, .int .i64 b.acc, .int .i64 b.vr, .int .i64 b.p2, .int .u64 b.gm, .int .i64 b.steps, .int .u64 b.snd, .int .i64 b.sp, .int .u64 b.rcv, .int .i64 b.rp] _ (by simp)) (by simp) _), (rangeAt_ds ..).1 (rangeAt_new _ _ [.int .i64 c.p1, .int .i64 c.cls, .int .i64 c.acc, .int .i64 c.vr, .int .i64 c.p2, .int .u64 c.gm, .int .i64 c.steps, .int .u64 c.snd, .int .i64 c.sp, .int .u64 c.rcv, .int .i64 c.rp] _ (by simp)), by simp, (((Below.refl _ _).alloc (Nat.le_refl _) _).alloc (by simp) _).alloc (by simp; omega) _⟩
def T4 (a b c x : DS) (sb n : Nat) (w W : World) : Prop := (W.cell? ⟨sb, n * 11, none⟩ = some (.int .i64 x.p1) ∧ W.cell? ⟨sb, n * 11 + 1, none⟩ = some (.int .i64 x.cls) ∧ W.cell? ⟨sb, n * 11 + 2, none⟩ = some (.int .i64 x.acc) ∧ W.cell? ⟨sb, n * 11 + 3, none⟩ = some (.int .i64 x.vr) ∧ W.cell? ⟨sb, n * 11 + 4, none⟩ = some (.int .i64 x.p2) ∧ W.cell? ⟨sb, n * 11 + 5, none⟩ = some (.int .u64 x.gm) ∧ W.cell? ⟨sb, n * 11 + 6, none⟩ = some (.int .i64 x.steps) ∧ W.cell? ⟨sb, n * 11 + 7, none⟩ = some (.int .u64 x.snd) ∧ W.cell? ⟨sb, n * 11 + 8, none⟩ = some (.int .i64 x.sp) ∧ W.cell? ⟨sb, n * 11 + 9, none⟩ = some (.int .u64 x.rcv) ∧ W.cell? ⟨sb, n * 11 + 10, none⟩ = some (.int .i64 x.rp)) ∧ sb < W.heap.size ∧ T3 a b c w W
theorem T4.step {a b c x : DS} {sb n : Nat} {w W W1 : World} (h : T4 a b c x sb n w W) (hb : Below W.heap.size W W1) : T4 a b c x sb n w W1 := by
  obtain ⟨h1, h2, h3⟩ := h
  exact ⟨dscells_keep (fun o => hb.cell (p := ⟨sb, o, none⟩) h2) h1, Nat.lt_of_lt_of_le h2 hb.size, h3.step hb⟩
theorem sl3 (a b c : DS) (W : World) (t : TypeId) : Sl (W.alloc (.cells (([] ++ (dsL a ++ (dsL b ++ dsL c))) : List Value).toArray t)) (W.heap.size + 1) 11 (some ⟨W.heap.size, 0, none⟩) ([a, b, c].map dsL) := fun _ => by
  refine ⟨_, _, rfl, Nat.lt_succ_self _, fun i x hx j u hu => ?_⟩
  match i, hx with
  | 0, rfl => have := rangeAt_mid W t [] (dsL a) (dsL b ++ dsL c) _ 0 rfl rfl j u hu; rwa [show 0 + 0 * 11 + j = 0 + j by omega]
  | 1, rfl => have := rangeAt_mid W t (dsL a) (dsL b) (dsL c) _ 11 rfl rfl j u hu; rwa [show 0 + 1 * 11 + j = 11 + j by omega]
  | 2, rfl => have := rangeAt_mid W t (dsL a ++ dsL b) (dsL c) [] _ 22 rfl rfl j u hu; rwa [show 0 + 2 * 11 + j = 22 + j by omega]
theorem sl3' (a b c : DS) (W : World) (t : TypeId) : Sl (W.alloc (.cells #[.int .i64 a.p1, .int .i64 a.cls, .int .i64 a.acc, .int .i64 a.vr, .int .i64 a.p2, .int .u64 a.gm, .int .i64 a.steps, .int .u64 a.snd, .int .i64 a.sp, .int .u64 a.rcv, .int .i64 a.rp, .int .i64 b.p1, .int .i64 b.cls, .int .i64 b.acc, .int .i64 b.vr, .int .i64 b.p2, .int .u64 b.gm, .int .i64 b.steps, .int .u64 b.snd, .int .i64 b.sp, .int .u64 b.rcv, .int .i64 b.rp, .int .i64 c.p1, .int .i64 c.cls, .int .i64 c.acc, .int .i64 c.vr, .int .i64 c.p2, .int .u64 c.gm, .int .i64 c.steps, .int .u64 c.snd, .int .i64 c.sp, .int .u64 c.rcv, .int .i64 c.rp] t)) (W.alloc (.cells #[.int .i64 a.p1, .int .i64 a.cls, .int .i64 a.acc, .int .i64 a.vr, .int .i64 a.p2, .int .u64 a.gm, .int .i64 a.steps, .int .u64 a.snd, .int .i64 a.sp, .int .u64 a.rcv, .int .i64 a.rp, .int .i64 b.p1, .int .i64 b.cls, .int .i64 b.acc, .int .i64 b.vr, .int .i64 b.p2, .int .u64 b.gm, .int .i64 b.steps, .int .u64 b.snd, .int .i64 b.sp, .int .u64 b.rcv, .int .i64 b.rp, .int .i64 c.p1, .int .i64 c.cls, .int .i64 c.acc, .int .i64 c.vr, .int .i64 c.p2, .int .u64 c.gm, .int .i64 c.steps, .int .u64 c.snd, .int .i64 c.sp, .int .u64 c.rcv, .int .i64 c.rp] t)).heap.size 11 (some ⟨W.heap.size, 0, none⟩) ([a, b, c].map dsL) :=
  Sl.more (show Sl (W.alloc (.cells #[.int .i64 a.p1, .int .i64 a.cls, .int .i64 a.acc, .int .i64 a.vr, .int .i64 a.p2, .int .u64 a.gm, .int .i64 a.steps, .int .u64 a.snd, .int .i64 a.sp, .int .u64 a.rcv, .int .i64 a.rp, .int .i64 b.p1, .int .i64 b.cls, .int .i64 b.acc, .int .i64 b.vr, .int .i64 b.p2, .int .u64 b.gm, .int .i64 b.steps, .int .u64 b.snd, .int .i64 b.sp, .int .u64 b.rcv, .int .i64 b.rp, .int .i64 c.p1, .int .i64 c.cls, .int .i64 c.acc, .int .i64 c.vr, .int .i64 c.p2, .int .u64 c.gm, .int .i64 c.steps, .int .u64 c.snd, .int .i64 c.sp, .int .u64 c.rcv, .int .i64 c.rp] t)) (W.heap.size + 1) 11 (some ⟨W.heap.size, 0, none⟩) ([a, b, c].map dsL) from sl3 a b c W t) (by simp)
theorem t4_new {a b c x : DS} {w W w5 : World} {n : Nat} (t : TypeId) (hT : T3 a b c w W) (hn : n < 3) (hx : x = [a, b, c].getD n DsLaw.z) (hb5 : Below (W.alloc (.cells #[.int .i64 a.p1, .int .i64 a.cls, .int .i64 a.acc, .int .i64 a.vr, .int .i64 a.p2, .int .u64 a.gm, .int .i64 a.steps, .int .u64 a.snd, .int .i64 a.sp, .int .u64 a.rcv, .int .i64 a.rp, .int .i64 b.p1, .int .i64 b.cls, .int .i64 b.acc, .int .i64 b.vr, .int .i64 b.p2, .int .u64 b.gm, .int .i64 b.steps, .int .u64 b.snd, .int .i64 b.sp, .int .u64 b.rcv, .int .i64 b.rp, .int .i64 c.p1, .int .i64 c.cls, .int .i64 c.acc, .int .i64 c.vr, .int .i64 c.p2, .int .u64 c.gm, .int .i64 c.steps, .int .u64 c.snd, .int .i64 c.sp, .int .u64 c.rcv, .int .i64 c.rp] t)).heap.size (W.alloc (.cells #[.int .i64 a.p1, .int .i64 a.cls, .int .i64 a.acc, .int .i64 a.vr, .int .i64 a.p2, .int .u64 a.gm, .int .i64 a.steps, .int .u64 a.snd, .int .i64 a.sp, .int .u64 a.rcv, .int .i64 a.rp, .int .i64 b.p1, .int .i64 b.cls, .int .i64 b.acc, .int .i64 b.vr, .int .i64 b.p2, .int .u64 b.gm, .int .i64 b.steps, .int .u64 b.snd, .int .i64 b.sp, .int .u64 b.rcv, .int .i64 b.rp, .int .i64 c.p1, .int .i64 c.cls, .int .i64 c.acc, .int .i64 c.vr, .int .i64 c.p2, .int .u64 c.gm, .int .i64 c.steps, .int .u64 c.snd, .int .i64 c.sp, .int .u64 c.rcv, .int .i64 c.rp] t)) w5) :
    T4 a b c x W.heap.size n w w5 ∧ Sl w5 w5.heap.size 11 (some ⟨W.heap.size, 0, none⟩) ([a, b, c].map dsL) := by
  have h5 := ((sl3' a b c W t).below hb5).more hb5.size
  have hs : (W.alloc (.cells #[.int .i64 a.p1, .int .i64 a.cls, .int .i64 a.acc, .int .i64 a.vr, .int .i64 a.p2, .int .u64 a.gm, .int .i64 a.steps, .int .u64 a.snd, .int .i64 a.sp, .int .u64 a.rcv, .int .i64 a.rp, .int .i64 b.p1, .int .i64 b.cls, .int .i64 b.acc, .int .i64 b.vr, .int .i64 b.p2, .int .u64 b.gm, .int .i64 b.steps, .int .u64 b.snd, .int .i64 b.sp, .int .u64 b.rcv, .int .i64 b.rp, .int .i64 c.p1, .int .i64 c.cls, .int .i64 c.acc, .int .i64 c.vr, .int .i64 c.p2, .int .u64 c.gm, .int .i64 c.steps, .int .u64 c.snd, .int .i64 c.sp, .int .u64 c.rcv, .int .i64 c.rp] t)).heap.size = W.heap.size + 1 := by simp
  have hz := hb5.size
  refine ⟨⟨?_, by omega, (hT.step ((Below.refl _ _).alloc (Nat.le_refl _) _)).step hb5⟩, h5⟩
  obtain ⟨b', o', e, hlt, hc⟩ := Sl.ds h5 (by simp)
  simp only [Option.some.injEq, Addr.mk.injEq, and_true] at e
  obtain ⟨rfl, rfl⟩ := e
  have := hc n (by simpa using hn)
  rw [← hx] at this
  simpa only [Nat.zero_add] using this
attribute [local go_sem ↓] eql_ds neq_ds
set_option maxHeartbeats 4000000 in
theorem total_way (a b c : DS) (ha : DsLaw.Ok a) (hb : DsLaw.Ok b) (hc : DsLaw.Ok c) (w : World) (hF : Fields w) (v1 v2 v3 : Bool) (h1 : decide (lt a b) = v1) (h2 : decide (lt b a) = v2) (h3 : decide (a = b) = v3)
    (hv : (v1 = true ∧ v2 = false ∧ v3 = false ∧ (decide (lt b c) = false ∨ decide (lt b c) = true ∧ decide (lt a c) = true)) ∨ (v1 = false ∧ v2 = true ∧ v3 = false) ∨ (v1 = false ∧ v2 = false ∧ v3 = true)) :
    Calls Tryd.prog 7 #[(.agg #[.int .i64 a.p1, .int .i64 a.cls, .int .i64 a.acc, .int .i64 a.vr, .int .i64 a.p2, .int .u64 a.gm, .int .i64 a.steps, .int .u64 a.snd, .int .i64 a.sp, .int .u64 a.rcv, .int .i64 a.rp]), (.agg #[.int .i64 b.p1, .int .i64 b.cls, .int .i64 b.acc, .int .i64 b.vr, .int .i64 b.p2, .int .u64 b.gm, .int .i64 b.steps, .int .u64 b.snd, .int .i64 b.sp, .int .u64 b.rcv, .int .i64 b.rp]), (.agg #[.int .i64 c.p1, .int .i64 c.cls, .int .i64 c.acc, .int .i64 c.vr, .int .i64 c.p2, .int .u64 c.gm, .int .i64 c.steps, .int .u64 c.snd, .int .i64 c.sp, .int .u64 c.rcv, .int .i64 c.rp])] w fun e w' => e = .returned (.bool true) ∧ Below w.heap.size w w' := by
  obtain ⟨n, hn, hn3⟩ : ∃ n : Nat, DsLaw.best [a, b, c] 3 = n ∧ n < 3 := by
    have := DsLaw.best_range [a, b, c] 3
    exact ⟨(DsLaw.best [a, b, c] 3).toNat, by omega, by omega⟩
  have hle := DsLaw.best_least [a, b, c] 3 (by simp)
  rw [hn] at hle
  simp only [Int.toNat_natCast] at hle
  obtain ⟨x, hx⟩ : ∃ x, x = [a, b, c].getD n DsLaw.z := ⟨_, rfl⟩
  have hxo : DsLaw.Ok x := by
    rw [hx]
    match n, hn3 with
    | 0, _ => exact ha
    | 1, _ => exact hb
    | 2, _ => exact hc
  rw [← hx] at hle
  have la : decide (lt a x) = false := by simpa using (hle 0 (by omega)).1
  have lb : decide (lt b x) = false := by simpa using (hle 1 (by omega)).1
  have lc : decide (lt c x) = false := by simpa using (hle 2 (by omega)).1
  have laa : decide (lt a a) = false := by simpa using DsLaw.lt_irrefl a
  have hfirst : ∀ j, j < n → ¬ x = [a, b, c].getD j DsLaw.z := fun j hj he => by
    have := (hle j (by omega)).2 (by omega)
    rw [← he] at this
    exact DsLaw.lt_irrefl _ this
  have hL := Lib.hid (fun (p q : DS) (hp : DsLaw.Ok p) (hq : DsLaw.Ok q) (W : World) (h : T3 a b c w W) => less_any p q hp hq W (hF.below h.2.2.2.2 hF.lt))
  have hL4 := Lib.hid (fun (p q : DS) (hp : DsLaw.Ok p) (hq : DsLaw.Ok q) (W : World) (sb : Nat) (h : T4 a b c x sb n w W) => less_any p q hp hq W (hF.below h.2.2.2.2.2.2 hF.lt))
  have hA := Lib.hid (fun (W : World) (sb : Nat) (h : T4 a b c x sb n w W) => awake_any W (hF.below h.2.2.2.2.2.2 hF.lt))
  have hB := Lib.hid (fun (W : World) (B : Nat) (hW : Fields W) (h : Sl W W.heap.size 11 (some ⟨B, 0, none⟩) ([a, b, c].map dsL)) => hn ▸ best_any [a, b, c] (some ⟨B, 0, none⟩) 3 (fun d hd => by
    simp only [List.mem_cons, List.not_mem_nil, or_false] at hd
    rcases hd with rfl | rfl | rfl <;> assumption) (by simp) W hW h)
  have hI := Lib.hid (fun (W : World) (B : Nat) (h : Sl W W.heap.size 11 (some ⟨B, 0, none⟩) ([a, b, c].map dsL)) => index_any [a, b, c] (some ⟨B, 0, none⟩) 3 x n (by simpa using hn3) hx.symm hfirst (by simp) W h)
  have HFW := Lib.hid (fun (W : World) (h : T3 a b c w W) => hF.below h.2.2.2.2 hF.lt)
  have HN := Lib.hid (fun t1 t2 t3 => (T3.new a b c w t1 t2 t3).step (drew1 _))
  have HX := Lib.hid hx
  have hi0 : (0 : Int) ≤ (n : Int) := by omega
  have hi3 : (n : Int) < 3 := by omega
  have hnn : decide ((n : Int) < 0) = false := by simp
  have hn2 : decide (2 < (n : Int)) = false := by simp; omega
  clear hle hfirst hF hx hn
  rcases hv with ⟨rfl, rfl, rfl, hbc | ⟨hbc, hac⟩⟩ | ⟨rfl, rfl, rfl⟩ | ⟨rfl, rfl, rfl⟩
  rotate_left 2
  all_goals
    go_enter Tryd.func7, Tryd.ntmps7
    go_wp2_with fail
    refine wp_region_held_drew (S := (fun W => (W.cell? ⟨w.heap.size, 0, none⟩ = some (.int .i64 a.p1) ∧ W.cell? ⟨w.heap.size, 1, none⟩ = some (.int .i64 a.cls) ∧ W.cell? ⟨w.heap.size, 2, none⟩ = some (.int .i64 a.acc) ∧ W.cell? ⟨w.heap.size, 3, none⟩ = some (.int .i64 a.vr) ∧ W.cell? ⟨w.heap.size, 4, none⟩ = some (.int .i64 a.p2) ∧ W.cell? ⟨w.heap.size, 5, none⟩ = some (.int .u64 a.gm) ∧ W.cell? ⟨w.heap.size, 6, none⟩ = some (.int .i64 a.steps) ∧ W.cell? ⟨w.heap.size, 7, none⟩ = some (.int .u64 a.snd) ∧ W.cell? ⟨w.heap.size, 8, none⟩ = some (.int .i64 a.sp) ∧ W.cell? ⟨w.heap.size, 9, none⟩ = some (.int .u64 a.rcv) ∧ W.cell? ⟨w.heap.size, 10, none⟩ = some (.int .i64 a.rp)) ∧ (W.cell? ⟨w.heap.size + 1, 0, none⟩ = some (.int .i64 b.p1) ∧ W.cell? ⟨w.heap.size + 1, 1, none⟩ = some (.int .i64 b.cls) ∧ W.cell? ⟨w.heap.size + 1, 2, none⟩ = some (.int .i64 b.acc) ∧ W.cell? ⟨w.heap.size + 1, 3, none⟩ = some (.int .i64 b.vr) ∧ W.cell? ⟨w.heap.size + 1, 4, none⟩ = some (.int .i64 b.p2) ∧ W.cell? ⟨w.heap.size + 1, 5, none⟩ = some (.int .u64 b.gm) ∧ W.cell? ⟨w.heap.size + 1, 6, none⟩ = some (.int .i64 b.steps) ∧ W.cell? ⟨w.heap.size + 1, 7, none⟩ = some (.int .u64 b.snd) ∧ W.cell? ⟨w.heap.size + 1, 8, none⟩ = some (.int .i64 b.sp) ∧ W.cell? ⟨w.heap.size + 1, 9, none⟩ = some (.int .u64 b.rcv) ∧ W.cell? ⟨w.heap.size + 1, 10, none⟩ = some (.int .i64 b.rp)) ∧ (W.cell? ⟨w.heap.size + 1 + 1, 0, none⟩ = some (.int .i64 c.p1) ∧ W.cell? ⟨w.heap.size + 1 + 1, 1, none⟩ = some (.int .i64 c.cls) ∧ W.cell? ⟨w.heap.size + 1 + 1, 2, none⟩ = some (.int .i64 c.acc) ∧ W.cell? ⟨w.heap.size + 1 + 1, 3, none⟩ = some (.int .i64 c.vr) ∧ W.cell? ⟨w.heap.size + 1 + 1, 4, none⟩ = some (.int .i64 c.p2) ∧ W.cell? ⟨w.heap.size + 1 + 1, 5, none⟩ = some (.int .u64 c.gm) ∧ W.cell? ⟨w.heap.size + 1 + 1, 6, none⟩ = some (.int .i64 c.steps) ∧ W.cell? ⟨w.heap.size + 1 + 1, 7, none⟩ = some (.int .u64 c.snd) ∧ W.cell? ⟨w.heap.size + 1 + 1, 8, none⟩ = some (.int .i64 c.sp) ∧ W.cell? ⟨w.heap.size + 1 + 1, 9, none⟩ = some (.int .u64 c.rcv) ∧ W.cell? ⟨w.heap.size + 1 + 1, 10, none⟩ = some (.int .i64 c.rp)) ∧ w.heap.size + 3 ≤ W.heap.size ∧ Below w.heap.size w W)) (by kernel_rfl) ?_ (fun hHeld => ?_)
    · exact HN.out _ _ _
    held_walk (go_at_call 14; refine (hL.out _ _ ?_ ?_ _ hHeld).mono ?_; assumption; assumption; rintro e w1 ⟨rfl, hb1⟩) (show T3 a b c w _; refine T3.step ?_ hb1; exact hHeld)
    have HT := Lib.hid (show T3 a b c w _ from hHeld)
    clear hHeld
    have hI := HT.out
    obtain ⟨⟨c0, c1, c2, c3, c4, c5, c6, c7, c8, c9, c10⟩, ⟨d0, d1, d2, d3, d4, d5, d6, d7, d8, d9, d10⟩, ⟨e0, e1, e2, e3, e4, e5, e6, e7, e8, e9, e10⟩, hsz, hbel⟩ := hI
    go_wp2_with (go_at_call 14; refine (hL.out _ _ ?_ ?_ _ HT.out).mono ?_; assumption; assumption; rintro e w1 ⟨rfl, hb1⟩; clear c0 c1 c2 c3 c4 c5 c6 c7 c8 c9 c10 d0 d1 d2 d3 d4 d5 d6 d7 d8 d9 d10 e0 e1 e2 e3 e4 e5 e6 e7 e8 e9 e10 hsz hbel; replace HT := Lib.hid (HT.out.step hb1); clear hb1; have hI := HT.out; obtain ⟨⟨c0, c1, c2, c3, c4, c5, c6, c7, c8, c9, c10⟩, ⟨d0, d1, d2, d3, d4, d5, d6, d7, d8, d9, d10⟩, ⟨e0, e1, e2, e3, e4, e5, e6, e7, e8, e9, e10⟩, hsz, hbel⟩ := hI)
    refine (hB.out _ _ ((HFW.out _ HT.out).alloc _) (sl3' a b c _ _)).mono ?_
    rintro e w5 ⟨rfl, hb5⟩
    obtain ⟨h4, h5⟩ := t4_new _ HT.out hn3 HX.out hb5
    have HT4 := Lib.hid h4
    have HSL := Lib.hid h5
    clear h4 h5 hb5 HT
    clear c0 c1 c2 c3 c4 c5 c6 c7 c8 c9 c10 d0 d1 d2 d3 d4 d5 d6 d7 d8 d9 d10 e0 e1 e2 e3 e4 e5 e6 e7 e8 e9 e10 hsz hbel
    have hI4 := HT4.out
    obtain ⟨⟨x0, x1, x2, x3, x4, x5, x6, x7, x8, x9, x10⟩, hsb, ⟨c0, c1, c2, c3, c4, c5, c6, c7, c8, c9, c10⟩, ⟨d0, d1, d2, d3, d4, d5, d6, d7, d8, d9, d10⟩, ⟨e0, e1, e2, e3, e4, e5, e6, e7, e8, e9, e10⟩, hsz, hbel⟩ := hI4
    go_wp2_with (go_at_call 18; refine (hI.out _ _ HSL.out).mono ?_; rintro e w6 ⟨rfl, hb6⟩; replace HT4 := Lib.hid (HT4.out.step hb6); clear hb6; clear x0 x1 x2 x3 x4 x5 x6 x7 x8 x9 x10; clear c0 c1 c2 c3 c4 c5 c6 c7 c8 c9 c10 d0 d1 d2 d3 d4 d5 d6 d7 d8 d9 d10 e0 e1 e2 e3 e4 e5 e6 e7 e8 e9 e10 hsz hbel hsb)
    refine wp_region_held_drew (S := (fun W => (W.cell? ⟨w1.heap.size, n * 11, none⟩ = some (.int .i64 x.p1) ∧ W.cell? ⟨w1.heap.size, n * 11 + 1, none⟩ = some (.int .i64 x.cls) ∧ W.cell? ⟨w1.heap.size, n * 11 + 2, none⟩ = some (.int .i64 x.acc) ∧ W.cell? ⟨w1.heap.size, n * 11 + 3, none⟩ = some (.int .i64 x.vr) ∧ W.cell? ⟨w1.heap.size, n * 11 + 4, none⟩ = some (.int .i64 x.p2) ∧ W.cell? ⟨w1.heap.size, n * 11 + 5, none⟩ = some (.int .u64 x.gm) ∧ W.cell? ⟨w1.heap.size, n * 11 + 6, none⟩ = some (.int .i64 x.steps) ∧ W.cell? ⟨w1.heap.size, n * 11 + 7, none⟩ = some (.int .u64 x.snd) ∧ W.cell? ⟨w1.heap.size, n * 11 + 8, none⟩ = some (.int .i64 x.sp) ∧ W.cell? ⟨w1.heap.size, n * 11 + 9, none⟩ = some (.int .u64 x.rcv) ∧ W.cell? ⟨w1.heap.size, n * 11 + 10, none⟩ = some (.int .i64 x.rp)) ∧ w1.heap.size < W.heap.size ∧ (W.cell? ⟨w.heap.size, 0, none⟩ = some (.int .i64 a.p1) ∧ W.cell? ⟨w.heap.size, 1, none⟩ = some (.int .i64 a.cls) ∧ W.cell? ⟨w.heap.size, 2, none⟩ = some (.int .i64 a.acc) ∧ W.cell? ⟨w.heap.size, 3, none⟩ = some (.int .i64 a.vr) ∧ W.cell? ⟨w.heap.size, 4, none⟩ = some (.int .i64 a.p2) ∧ W.cell? ⟨w.heap.size, 5, none⟩ = some (.int .u64 a.gm) ∧ W.cell? ⟨w.heap.size, 6, none⟩ = some (.int .i64 a.steps) ∧ W.cell? ⟨w.heap.size, 7, none⟩ = some (.int .u64 a.snd) ∧ W.cell? ⟨w.heap.size, 8, none⟩ = some (.int .i64 a.sp) ∧ W.cell? ⟨w.heap.size, 9, none⟩ = some (.int .u64 a.rcv) ∧ W.cell? ⟨w.heap.size, 10, none⟩ = some (.int .i64 a.rp)) ∧ (W.cell? ⟨w.heap.size + 1, 0, none⟩ = some (.int .i64 b.p1) ∧ W.cell? ⟨w.heap.size + 1, 1, none⟩ = some (.int .i64 b.cls) ∧ W.cell? ⟨w.heap.size + 1, 2, none⟩ = some (.int .i64 b.acc) ∧ W.cell? ⟨w.heap.size + 1, 3, none⟩ = some (.int .i64 b.vr) ∧ W.cell? ⟨w.heap.size + 1, 4, none⟩ = some (.int .i64 b.p2) ∧ W.cell? ⟨w.heap.size + 1, 5, none⟩ = some (.int .u64 b.gm) ∧ W.cell? ⟨w.heap.size + 1, 6, none⟩ = some (.int .i64 b.steps) ∧ W.cell? ⟨w.heap.size + 1, 7, none⟩ = some (.int .u64 b.snd) ∧ W.cell? ⟨w.heap.size + 1, 8, none⟩ = some (.int .i64 b.sp) ∧ W.cell? ⟨w.heap.size + 1, 9, none⟩ = some (.int .u64 b.rcv) ∧ W.cell? ⟨w.heap.size + 1, 10, none⟩ = some (.int .i64 b.rp)) ∧ (W.cell? ⟨w.heap.size + 1 + 1, 0, none⟩ = some (.int .i64 c.p1) ∧ W.cell? ⟨w.heap.size + 1 + 1, 1, none⟩ = some (.int .i64 c.cls) ∧ W.cell? ⟨w.heap.size + 1 + 1, 2, none⟩ = some (.int .i64 c.acc) ∧ W.cell? ⟨w.heap.size + 1 + 1, 3, none⟩ = some (.int .i64 c.vr) ∧ W.cell? ⟨w.heap.size + 1 + 1, 4, none⟩ = some (.int .i64 c.p2) ∧ W.cell? ⟨w.heap.size + 1 + 1, 5, none⟩ = some (.int .u64 c.gm) ∧ W.cell? ⟨w.heap.size + 1 + 1, 6, none⟩ = some (.int .i64 c.steps) ∧ W.cell? ⟨w.heap.size + 1 + 1, 7, none⟩ = some (.int .u64 c.snd) ∧ W.cell? ⟨w.heap.size + 1 + 1, 8, none⟩ = some (.int .i64 c.sp) ∧ W.cell? ⟨w.heap.size + 1 + 1, 9, none⟩ = some (.int .u64 c.rcv) ∧ W.cell? ⟨w.heap.size + 1 + 1, 10, none⟩ = some (.int .i64 c.rp)) ∧ w.heap.size + 3 ≤ W.heap.size ∧ Below w.heap.size w W)) (by kernel_rfl) ?_ (fun hHeld => ?_)
    · exact HT4.out.step (drew1 _)
    clear HT4
    held_walk (first | (go_at_call 14; refine (hL4.out _ _ ?_ ?_ _ _ hHeld).mono ?_; assumption; assumption; rintro e w7 ⟨rfl, hb7⟩) | (go_at_call 13; refine (hA.out _ _ hHeld).mono ?_; rintro e w7 ⟨rfl, hb7⟩)) (show T4 a b c x _ n w _; refine T4.step ?_ hb7; exact hHeld)
    have HE := Lib.hid hHeld.2.2.2.2.2.2
    clear hHeld
    go_wp2
    go_ret
    exact ⟨rfl, HE.out⟩
end Go.Proofs.YtljcmjcfebpkoaaDoor
