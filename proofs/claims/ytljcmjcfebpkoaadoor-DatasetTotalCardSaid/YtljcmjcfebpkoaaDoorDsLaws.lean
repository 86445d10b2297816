/- The walks of layer 34's laws: the examples of the chapter. -/
import Derived.Test.YtljcmjcfebpkoaaDoorDsRef3
namespace Go.Proofs.YtljcmjcfebpkoaaDoor
set_option linter.unusedVariables false
open Go.RowKit
open DsLaw (I64 U64 cmpI lexF lt rk)

def smallDS (d : DS) : Bool := [d.p1, d.cls, d.acc, d.vr, d.p2, d.gm, d.steps, d.snd, d.sp, d.rcv, d.rp].all fun n => decide (0 ≤ n ∧ n ≤ 1000)
theorem okL (d : DS) (h : smallDS d = true) : DsLaw.Ok d := by
  simp only [smallDS, List.all_cons, List.all_nil, Bool.and_true, Bool.and_eq_true, decide_eq_true_eq] at h
  obtain ⟨h0, h1, h2, h3, h4, h5, h6, h7, h8, h9, h10⟩ := h
  constructor <;> first | (unfold I64; omega) | (unfold U64; omega)
def dA : DS := ⟨0, 0, 0, 0, 0, 1, 1, 0, 0, 0, 0⟩
def dB : DS := ⟨0, 0, 0, 0, 0, 1, 3, 0, 0, 0, 0⟩
def dD : DS := ⟨128, 7, 0, 0, 0, 2, 0, 0, 0, 0, 0⟩
def dC : DS := ⟨128, 6, 0, 0, 0, 9, 20, 0, 0, 0, 0⟩
def dO : DS := ⟨1, 0, 0, 0, 5, 7, 0, 7, 0, 7, 0⟩
theorem aw1 (w : World) (hF : Fields w) : Calls Tryd.prog 11 #[(.agg #[.int .i64 dA.p1, .int .i64 dA.cls, .int .i64 dA.acc, .int .i64 dA.vr, .int .i64 dA.p2, .int .u64 dA.gm, .int .i64 dA.steps, .int .u64 dA.snd, .int .i64 dA.sp, .int .u64 dA.rcv, .int .i64 dA.rp]), (.agg #[.int .i64 dB.p1, .int .i64 dB.cls, .int .i64 dB.acc, .int .i64 dB.vr, .int .i64 dB.p2, .int .u64 dB.gm, .int .i64 dB.steps, .int .u64 dB.snd, .int .i64 dB.sp, .int .u64 dB.rcv, .int .i64 dB.rp])] w fun e w' => e = .returned (.int .i64 1) ∧ Below w.heap.size w w' := by
  have h := compare_any dA dB (okL _ (by decide)) (okL _ (by decide)) w hF
  rwa [show DsLaw.cmp dA dB = 1 from by decide] at h
theorem aw2 (w : World) (hF : Fields w) : Calls Tryd.prog 11 #[(.agg #[.int .i64 dC.p1, .int .i64 dC.cls, .int .i64 dC.acc, .int .i64 dC.vr, .int .i64 dC.p2, .int .u64 dC.gm, .int .i64 dC.steps, .int .u64 dC.snd, .int .i64 dC.sp, .int .u64 dC.rcv, .int .i64 dC.rp]), (.agg #[.int .i64 dD.p1, .int .i64 dD.cls, .int .i64 dD.acc, .int .i64 dD.vr, .int .i64 dD.p2, .int .u64 dD.gm, .int .i64 dD.steps, .int .u64 dD.snd, .int .i64 dD.sp, .int .u64 dD.rcv, .int .i64 dD.rp])] w fun e w' => e = .returned (.int .i64 1) ∧ Below w.heap.size w w' := by
  have h := compare_any dC dD (okL _ (by decide)) (okL _ (by decide)) w hF
  rwa [show DsLaw.cmp dC dD = 1 from by decide] at h
theorem aw3 (w : World) (hF : Fields w) : Calls Tryd.prog 14 #[(.agg #[.int .i64 dC.p1, .int .i64 dC.cls, .int .i64 dC.acc, .int .i64 dC.vr, .int .i64 dC.p2, .int .u64 dC.gm, .int .i64 dC.steps, .int .u64 dC.snd, .int .i64 dC.sp, .int .u64 dC.rcv, .int .i64 dC.rp]), (.agg #[.int .i64 dD.p1, .int .i64 dD.cls, .int .i64 dD.acc, .int .i64 dD.vr, .int .i64 dD.p2, .int .u64 dD.gm, .int .i64 dD.steps, .int .u64 dD.snd, .int .i64 dD.sp, .int .u64 dD.rcv, .int .i64 dD.rp])] w fun e w' => e = .returned (.bool true) ∧ Below w.heap.size w w' := by
  have h := less_any dC dD (okL _ (by decide)) (okL _ (by decide)) w hF
  rwa [show decide (lt dC dD) = true from by decide] at h
theorem aw4 (w : World) (hF : Fields w) : Calls Tryd.prog 14 #[(.agg #[.int .i64 dD.p1, .int .i64 dD.cls, .int .i64 dD.acc, .int .i64 dD.vr, .int .i64 dD.p2, .int .u64 dD.gm, .int .i64 dD.steps, .int .u64 dD.snd, .int .i64 dD.sp, .int .u64 dD.rcv, .int .i64 dD.rp]), (.agg #[.int .i64 dC.p1, .int .i64 dC.cls, .int .i64 dC.acc, .int .i64 dC.vr, .int .i64 dC.p2, .int .u64 dC.gm, .int .i64 dC.steps, .int .u64 dC.snd, .int .i64 dC.sp, .int .u64 dC.rcv, .int .i64 dC.rp])] w fun e w' => e = .returned (.bool false) ∧ Below w.heap.size w w' := by
  have h := less_any dD dC (okL _ (by decide)) (okL _ (by decide)) w hF
  rwa [show decide (lt dD dC) = false from by decide] at h
theorem aw5 (w : World) (hF : Fields w) : Calls Tryd.prog 11 #[(.agg #[.int .i64 dO.p1, .int .i64 dO.cls, .int .i64 dO.acc, .int .i64 dO.vr, .int .i64 dO.p2, .int .u64 dO.gm, .int .i64 dO.steps, .int .u64 dO.snd, .int .i64 dO.sp, .int .u64 dO.rcv, .int .i64 dO.rp]), (.agg #[.int .i64 dO.p1, .int .i64 dO.cls, .int .i64 dO.acc, .int .i64 dO.vr, .int .i64 dO.p2, .int .u64 dO.gm, .int .i64 dO.steps, .int .u64 dO.snd, .int .i64 dO.sp, .int .u64 dO.rcv, .int .i64 dO.rp])] w fun e w' => e = .returned (.int .i64 0) ∧ Below w.heap.size w w' := by
  have h := compare_any dO dO (okL _ (by decide)) (okL _ (by decide)) w hF
  rwa [show DsLaw.cmp dO dO = 0 from by decide] at h
theorem aw6 (w : World) (hF : Fields w) : Calls Tryd.prog 16 #[.slice none 0 0] w fun e w' => e = .returned (.int .i64 (-1)) ∧ Below w.heap.size w w' :=
  best_any [] none 0 (fun _ h => by cases h) (by decide) w hF Sl.nil
theorem aw7 (w : World) (hF : Fields w) (b : Nat) (hb : b < w.heap.size) (h0 : w.rangeAt b 0 (dsL dD)) (h1 : w.rangeAt b 11 (dsL dC)) (h2 : w.rangeAt b 22 (dsL dC)) :
    Calls Tryd.prog 16 #[.slice (some ⟨b, 0, none⟩) 3 3] w fun e w' => e = .returned (.int .i64 1) ∧ Below w.heap.size w w' := by
  have h := best_any [dD, dC, dC] (some ⟨b, 0, none⟩) 3 (fun d hd => by
    simp only [List.mem_cons, List.not_mem_nil, or_false] at hd
    rcases hd with rfl | rfl | rfl <;> exact okL _ (by decide)) (by decide) w hF (fun _ => ⟨b, 0, rfl, hb, fun i x hx j u hu => by
      match i, hx with
      | 0, rfl => have := h0 j u hu; rwa [show 0 + 0 * 11 + j = 0 + j by omega]
      | 1, rfl => have := h1 j u hu; rwa [show 0 + 1 * 11 + j = 11 + j by omega]
      | 2, rfl => have := h2 j u hu; rwa [show 0 + 2 * 11 + j = 22 + j by omega]⟩)
  have e : DsLaw.best [dD, dC, dC] [dD, dC, dC].length = 1 := by decide
  rw [e] at h
  exact h
theorem rangeAt_mid (w : World) (t : TypeId) (xs ys zs : List Value) (b o : Nat) (hb : b = w.heap.size) (ho : o = xs.length) : (w.alloc (.cells (xs ++ (ys ++ zs)).toArray t)).rangeAt b o ys := fun j v hv => by
  subst hb ho
  rw [World.cell?_alloc_new]
  have hj : j < ys.length := (List.getElem?_eq_some_iff.1 hv).1
  simp [List.getElem?_append_right, List.getElem?_append_left hj, hv]
theorem own_w (p1 cls acc vr p2 id : Int) (w : World) : Calls Tryd.prog 21 #[.agg #[.int .i64 p1, .int .i64 cls, .int .i64 acc, .int .i64 vr, .int .i64 p2], .int .u64 id] w fun e w' => e = .returned (.agg #[.int .i64 p1, .int .i64 cls, .int .i64 acc, .int .i64 vr, .int .i64 p2, .int .u64 id, .int .i64 0, .int .u64 id, .int .i64 0, .int .u64 id, .int .i64 0]) ∧
    (w.alloc (.cells #[.int .i64 p1, .int .i64 cls, .int .i64 acc, .int .i64 vr, .int .i64 p2] 38)).alloc (.cells #[.int .i64 p1, .int .i64 cls, .int .i64 acc, .int .i64 vr, .int .i64 p2, .int .u64 id, .int .i64 0, .int .u64 id, .int .i64 0, .int .u64 id, .int .i64 0] 24) = w' := by
  go_enter Tryd.func21, Tryd.ntmps21
  go_wp2
  exact bodyPost_ret (v := (.agg #[.int .i64 p1, .int .i64 cls, .int .i64 acc, .int .i64 vr, .int .i64 p2, .int .u64 id, .int .i64 0, .int .u64 id, .int .i64 0, .int .u64 id, .int .i64 0])) (by simp [results, Tryd.results21, go_sem]) rfl ⟨rfl, rfl⟩
/-- What the examples' walk keeps. -/
def AwI (w W : World) : Prop := (W.cell? ⟨w.heap.size + 1 + 1, 0, none⟩ = some (.int .i64 dC.p1) ∧ W.cell? ⟨w.heap.size + 1 + 1, 1, none⟩ = some (.int .i64 dC.cls) ∧ W.cell? ⟨w.heap.size + 1 + 1, 2, none⟩ = some (.int .i64 dC.acc) ∧ W.cell? ⟨w.heap.size + 1 + 1, 3, none⟩ = some (.int .i64 dC.vr) ∧ W.cell? ⟨w.heap.size + 1 + 1, 4, none⟩ = some (.int .i64 dC.p2) ∧ W.cell? ⟨w.heap.size + 1 + 1, 5, none⟩ = some (.int .u64 dC.gm) ∧ W.cell? ⟨w.heap.size + 1 + 1, 6, none⟩ = some (.int .i64 dC.steps) ∧ W.cell? ⟨w.heap.size + 1 + 1, 7, none⟩ = some (.int .u64 dC.snd) ∧ W.cell? ⟨w.heap.size + 1 + 1, 8, none⟩ = some (.int .i64 dC.sp) ∧ W.cell? ⟨w.heap.size + 1 + 1, 9, none⟩ = some (.int .u64 dC.rcv) ∧ W.cell? ⟨w.heap.size + 1 + 1, 10, none⟩ = some (.int .i64 dC.rp)) ∧ (W.cell? ⟨w.heap.size + 1 + 1 + 1, 0, none⟩ = some (.int .i64 dD.p1) ∧ W.cell? ⟨w.heap.size + 1 + 1 + 1, 1, none⟩ = some (.int .i64 dD.cls) ∧ W.cell? ⟨w.heap.size + 1 + 1 + 1, 2, none⟩ = some (.int .i64 dD.acc) ∧ W.cell? ⟨w.heap.size + 1 + 1 + 1, 3, none⟩ = some (.int .i64 dD.vr) ∧ W.cell? ⟨w.heap.size + 1 + 1 + 1, 4, none⟩ = some (.int .i64 dD.p2) ∧ W.cell? ⟨w.heap.size + 1 + 1 + 1, 5, none⟩ = some (.int .u64 dD.gm) ∧ W.cell? ⟨w.heap.size + 1 + 1 + 1, 6, none⟩ = some (.int .i64 dD.steps) ∧ W.cell? ⟨w.heap.size + 1 + 1 + 1, 7, none⟩ = some (.int .u64 dD.snd) ∧ W.cell? ⟨w.heap.size + 1 + 1 + 1, 8, none⟩ = some (.int .i64 dD.sp) ∧ W.cell? ⟨w.heap.size + 1 + 1 + 1, 9, none⟩ = some (.int .u64 dD.rcv) ∧ W.cell? ⟨w.heap.size + 1 + 1 + 1, 10, none⟩ = some (.int .i64 dD.rp)) ∧ (W.cell? ⟨w.heap.size + 1 + 1 + 1 + 1 + 1 + 1, 0, none⟩ = some (.int .i64 dO.p1) ∧ W.cell? ⟨w.heap.size + 1 + 1 + 1 + 1 + 1 + 1, 1, none⟩ = some (.int .i64 dO.cls) ∧ W.cell? ⟨w.heap.size + 1 + 1 + 1 + 1 + 1 + 1, 2, none⟩ = some (.int .i64 dO.acc) ∧ W.cell? ⟨w.heap.size + 1 + 1 + 1 + 1 + 1 + 1, 3, none⟩ = some (.int .i64 dO.vr) ∧ W.cell? ⟨w.heap.size + 1 + 1 + 1 + 1 + 1 + 1, 4, none⟩ = some (.int .i64 dO.p2) ∧ W.cell? ⟨w.heap.size + 1 + 1 + 1 + 1 + 1 + 1, 5, none⟩ = some (.int .u64 dO.gm) ∧ W.cell? ⟨w.heap.size + 1 + 1 + 1 + 1 + 1 + 1, 6, none⟩ = some (.int .i64 dO.steps) ∧ W.cell? ⟨w.heap.size + 1 + 1 + 1 + 1 + 1 + 1, 7, none⟩ = some (.int .u64 dO.snd) ∧ W.cell? ⟨w.heap.size + 1 + 1 + 1 + 1 + 1 + 1, 8, none⟩ = some (.int .i64 dO.sp) ∧ W.cell? ⟨w.heap.size + 1 + 1 + 1 + 1 + 1 + 1, 9, none⟩ = some (.int .u64 dO.rcv) ∧ W.cell? ⟨w.heap.size + 1 + 1 + 1 + 1 + 1 + 1, 10, none⟩ = some (.int .i64 dO.rp)) ∧ Fields W ∧ w.heap.size + 7 ≤ W.heap.size ∧ Below w.heap.size w W
theorem AwI.mk {w W : World} (h1 : W.cell? ⟨w.heap.size + 1 + 1, 0, none⟩ = some (.int .i64 dC.p1) ∧ W.cell? ⟨w.heap.size + 1 + 1, 1, none⟩ = some (.int .i64 dC.cls) ∧ W.cell? ⟨w.heap.size + 1 + 1, 2, none⟩ = some (.int .i64 dC.acc) ∧ W.cell? ⟨w.heap.size + 1 + 1, 3, none⟩ = some (.int .i64 dC.vr) ∧ W.cell? ⟨w.heap.size + 1 + 1, 4, none⟩ = some (.int .i64 dC.p2) ∧ W.cell? ⟨w.heap.size + 1 + 1, 5, none⟩ = some (.int .u64 dC.gm) ∧ W.cell? ⟨w.heap.size + 1 + 1, 6, none⟩ = some (.int .i64 dC.steps) ∧ W.cell? ⟨w.heap.size + 1 + 1, 7, none⟩ = some (.int .u64 dC.snd) ∧ W.cell? ⟨w.heap.size + 1 + 1, 8, none⟩ = some (.int .i64 dC.sp) ∧ W.cell? ⟨w.heap.size + 1 + 1, 9, none⟩ = some (.int .u64 dC.rcv) ∧ W.cell? ⟨w.heap.size + 1 + 1, 10, none⟩ = some (.int .i64 dC.rp)) (h2 : W.cell? ⟨w.heap.size + 1 + 1 + 1, 0, none⟩ = some (.int .i64 dD.p1) ∧ W.cell? ⟨w.heap.size + 1 + 1 + 1, 1, none⟩ = some (.int .i64 dD.cls) ∧ W.cell? ⟨w.heap.size + 1 + 1 + 1, 2, none⟩ = some (.int .i64 dD.acc) ∧ W.cell? ⟨w.heap.size + 1 + 1 + 1, 3, none⟩ = some (.int .i64 dD.vr) ∧ W.cell? ⟨w.heap.size + 1 + 1 + 1, 4, none⟩ = some (.int .i64 dD.p2) ∧ W.cell? ⟨w.heap.size + 1 + 1 + 1, 5, none⟩ = some (.int .u64 dD.gm) ∧ W.cell? ⟨w.heap.size + 1 + 1 + 1, 6, none⟩ = some (.int .i64 dD.steps) ∧ W.cell? ⟨w.heap.size + 1 + 1 + 1, 7, none⟩ = some (.int .u64 dD.snd) ∧ W.cell? ⟨w.heap.size + 1 + 1 + 1, 8, none⟩ = some (.int .i64 dD.sp) ∧ W.cell? ⟨w.heap.size + 1 + 1 + 1, 9, none⟩ = some (.int .u64 dD.rcv) ∧ W.cell? ⟨w.heap.size + 1 + 1 + 1, 10, none⟩ = some (.int .i64 dD.rp)) (h3 : W.cell? ⟨w.heap.size + 1 + 1 + 1 + 1 + 1 + 1, 0, none⟩ = some (.int .i64 dO.p1) ∧ W.cell? ⟨w.heap.size + 1 + 1 + 1 + 1 + 1 + 1, 1, none⟩ = some (.int .i64 dO.cls) ∧ W.cell? ⟨w.heap.size + 1 + 1 + 1 + 1 + 1 + 1, 2, none⟩ = some (.int .i64 dO.acc) ∧ W.cell? ⟨w.heap.size + 1 + 1 + 1 + 1 + 1 + 1, 3, none⟩ = some (.int .i64 dO.vr) ∧ W.cell? ⟨w.heap.size + 1 + 1 + 1 + 1 + 1 + 1, 4, none⟩ = some (.int .i64 dO.p2) ∧ W.cell? ⟨w.heap.size + 1 + 1 + 1 + 1 + 1 + 1, 5, none⟩ = some (.int .u64 dO.gm) ∧ W.cell? ⟨w.heap.size + 1 + 1 + 1 + 1 + 1 + 1, 6, none⟩ = some (.int .i64 dO.steps) ∧ W.cell? ⟨w.heap.size + 1 + 1 + 1 + 1 + 1 + 1, 7, none⟩ = some (.int .u64 dO.snd) ∧ W.cell? ⟨w.heap.size + 1 + 1 + 1 + 1 + 1 + 1, 8, none⟩ = some (.int .i64 dO.sp) ∧ W.cell? ⟨w.heap.size + 1 + 1 + 1 + 1 + 1 + 1, 9, none⟩ = some (.int .u64 dO.rcv) ∧ W.cell? ⟨w.heap.size + 1 + 1 + 1 + 1 + 1 + 1, 10, none⟩ = some (.int .i64 dO.rp)) (h4 : Fields W) (h5 : w.heap.size + 7 ≤ W.heap.size) (h6 : Below w.heap.size w W) : AwI w W := ⟨h1, h2, h3, h4, h5, h6⟩
theorem AwI.step {w W W1 : World} (h : AwI w W) (hb : Below W.heap.size W W1) : AwI w W1 := by
  obtain ⟨h1, h2, h3, h4, h5, h6⟩ := h
  exact ⟨(rangeAt_ds ..).1 (rangeAt_below ((rangeAt_ds ..).2 h1) hb (by omega)), (rangeAt_ds ..).1 (rangeAt_below ((rangeAt_ds ..).2 h2) hb (by omega)), (rangeAt_ds ..).1 (rangeAt_below ((rangeAt_ds ..).2 h3) hb (by omega)),
    h4.below hb h4.lt, Nat.le_trans h5 hb.size, h6.trans (hb.mono (by omega))⟩
theorem AwI.new (w : World) (hF : Fields w) (o1 o2 o5 : Obj) (t : TypeId) : AwI w (((((((w.alloc o1).alloc o2).alloc (.cells #[.int .i64 dC.p1, .int .i64 dC.cls, .int .i64 dC.acc, .int .i64 dC.vr, .int .i64 dC.p2, .int .u64 dC.gm, .int .i64 dC.steps, .int .u64 dC.snd, .int .i64 dC.sp, .int .u64 dC.rcv, .int .i64 dC.rp] t)).alloc (.cells #[.int .i64 dD.p1, .int .i64 dD.cls, .int .i64 dD.acc, .int .i64 dD.vr, .int .i64 dD.p2, .int .u64 dD.gm, .int .i64 dD.steps, .int .u64 dD.snd, .int .i64 dD.sp, .int .u64 dD.rcv, .int .i64 dD.rp] t)).alloc o5).alloc (.cells #[.int .i64 dO.p1, .int .i64 dO.cls, .int .i64 dO.acc, .int .i64 dO.vr, .int .i64 dO.p2, .int .u64 dO.gm, .int .i64 dO.steps, .int .u64 dO.snd, .int .i64 dO.sp, .int .u64 dO.rcv, .int .i64 dO.rp] t)).alloc (.cells #[.int .i64 dO.p1, .int .i64 dO.cls, .int .i64 dO.acc, .int .i64 dO.vr, .int .i64 dO.p2, .int .u64 dO.gm, .int .i64 dO.steps, .int .u64 dO.snd, .int .i64 dO.sp, .int .u64 dO.rcv, .int .i64 dO.rp] t)) := by
  refine ⟨(rangeAt_ds ..).1 ?_, (rangeAt_ds ..).1 ?_, (rangeAt_ds ..).1 ?_, (((((((hF.alloc _).alloc _).alloc _).alloc _).alloc _).alloc _).alloc _), by simp, ?_⟩
  · exact rangeAt_alloc (rangeAt_alloc (rangeAt_alloc (rangeAt_alloc (rangeAt_new _ _ [.int .i64 dC.p1, .int .i64 dC.cls, .int .i64 dC.acc, .int .i64 dC.vr, .int .i64 dC.p2, .int .u64 dC.gm, .int .i64 dC.steps, .int .u64 dC.snd, .int .i64 dC.sp, .int .u64 dC.rcv, .int .i64 dC.rp] _ (by simp)) (by simp) _) (by simp) _) (by simp) _) (by simp) _
  · exact rangeAt_alloc (rangeAt_alloc (rangeAt_alloc (rangeAt_new _ _ [.int .i64 dD.p1, .int .i64 dD.cls, .int .i64 dD.acc, .int .i64 dD.vr, .int .i64 dD.p2, .int .u64 dD.gm, .int .i64 dD.steps, .int .u64 dD.snd, .int .i64 dD.sp, .int .u64 dD.rcv, .int .i64 dD.rp] _ (by simp)) (by simp) _) (by simp) _) (by simp) _
  · exact rangeAt_new _ _ [.int .i64 dO.p1, .int .i64 dO.cls, .int .i64 dO.acc, .int .i64 dO.vr, .int .i64 dO.p2, .int .u64 dO.gm, .int .i64 dO.steps, .int .u64 dO.snd, .int .i64 dO.sp, .int .u64 dO.rcv, .int .i64 dO.rp] _ (by simp)
  · exact ((((((((Below.refl _ _).alloc (Nat.le_refl _) _).alloc (by simp) _).alloc (by simp; omega) _).alloc (by simp; omega) _).alloc (by simp; omega) _).alloc (by simp; omega) _).alloc (by simp; omega) _)
theorem dO_facts : dO.p1 = 1 ∧ dO.cls = 0 ∧ dO.acc = 0 ∧ dO.vr = 0 ∧ dO.p2 = 5 ∧ dO.gm = 7 ∧ dO.steps = 0 ∧ dO.snd = 7 ∧ dO.sp = 0 ∧ dO.rcv = 7 ∧ dO.rp = 0 := by decide
set_option maxHeartbeats 4000000 in
theorem awake_any (w : World) (hF : Fields w) : Calls Tryd.prog 13 #[] w fun e w' => e = .returned (.bool true) ∧ Below w.heap.size w w' := by
  have HI0 := Lib.hid (AwI.new w hF)
  go_enter Tryd.func13, Tryd.ntmps13
  go_wp2_with fail
  refine (own_w _ _ _ _ _ _ _).mono ?_
  rintro e w1 ⟨rfl, rfl⟩
  go_wp2_with fail
  refine (aw1 _ (((((((hF.alloc _).alloc _).alloc _).alloc _).alloc _).alloc _).alloc _)).mono ?_
  rintro e w1 ⟨rfl, hb⟩
  have hI := (HI0.out _ _ _ _).step hb
  clear hb HI0
  obtain ⟨⟨c0, c1, c2, c3, c4, c5, c6, c7, c8, c9, c10⟩, ⟨d0, d1, d2, d3, d4, d5, d6, d7, d8, d9, d10⟩, ⟨o0, o1, o2, o3, o4, o5, o6, o7, o8, o9, o10⟩, HF, HS, HB⟩ := hI
  have HF := Lib.hid HF
  have HS := Lib.hid HS
  have HB := Lib.hid HB
  go_wp2_with fail
  refine (aw2 _ HF.out).mono ?_
  rintro e w2 ⟨rfl, hb⟩
  have hI := (AwI.mk ⟨c0, c1, c2, c3, c4, c5, c6, c7, c8, c9, c10⟩ ⟨d0, d1, d2, d3, d4, d5, d6, d7, d8, d9, d10⟩ ⟨o0, o1, o2, o3, o4, o5, o6, o7, o8, o9, o10⟩ HF.out HS.out HB.out).step hb
  clear c0 c1 c2 c3 c4 c5 c6 c7 c8 c9 c10 d0 d1 d2 d3 d4 d5 d6 d7 d8 d9 d10 o0 o1 o2 o3 o4 o5 o6 o7 o8 o9 o10 HF HS HB hb
  obtain ⟨⟨c0, c1, c2, c3, c4, c5, c6, c7, c8, c9, c10⟩, ⟨d0, d1, d2, d3, d4, d5, d6, d7, d8, d9, d10⟩, ⟨o0, o1, o2, o3, o4, o5, o6, o7, o8, o9, o10⟩, HF, HS, HB⟩ := hI
  have HF := Lib.hid HF
  have HS := Lib.hid HS
  have HB := Lib.hid HB
  go_wp2_with fail
  refine (aw3 _ HF.out).mono ?_
  rintro e w3 ⟨rfl, hb⟩
  have hI := (AwI.mk ⟨c0, c1, c2, c3, c4, c5, c6, c7, c8, c9, c10⟩ ⟨d0, d1, d2, d3, d4, d5, d6, d7, d8, d9, d10⟩ ⟨o0, o1, o2, o3, o4, o5, o6, o7, o8, o9, o10⟩ HF.out HS.out HB.out).step hb
  clear c0 c1 c2 c3 c4 c5 c6 c7 c8 c9 c10 d0 d1 d2 d3 d4 d5 d6 d7 d8 d9 d10 o0 o1 o2 o3 o4 o5 o6 o7 o8 o9 o10 HF HS HB hb
  obtain ⟨⟨c0, c1, c2, c3, c4, c5, c6, c7, c8, c9, c10⟩, ⟨d0, d1, d2, d3, d4, d5, d6, d7, d8, d9, d10⟩, ⟨o0, o1, o2, o3, o4, o5, o6, o7, o8, o9, o10⟩, HF, HS, HB⟩ := hI
  have HF := Lib.hid HF
  have HS := Lib.hid HS
  have HB := Lib.hid HB
  go_wp2_with fail
  refine (aw4 _ HF.out).mono ?_
  rintro e w4 ⟨rfl, hb⟩
  have hI := (AwI.mk ⟨c0, c1, c2, c3, c4, c5, c6, c7, c8, c9, c10⟩ ⟨d0, d1, d2, d3, d4, d5, d6, d7, d8, d9, d10⟩ ⟨o0, o1, o2, o3, o4, o5, o6, o7, o8, o9, o10⟩ HF.out HS.out HB.out).step hb
  clear c0 c1 c2 c3 c4 c5 c6 c7 c8 c9 c10 d0 d1 d2 d3 d4 d5 d6 d7 d8 d9 d10 o0 o1 o2 o3 o4 o5 o6 o7 o8 o9 o10 HF HS HB hb
  obtain ⟨⟨c0, c1, c2, c3, c4, c5, c6, c7, c8, c9, c10⟩, ⟨d0, d1, d2, d3, d4, d5, d6, d7, d8, d9, d10⟩, ⟨o0, o1, o2, o3, o4, o5, o6, o7, o8, o9, o10⟩, HF, HS, HB⟩ := hI
  have HF := Lib.hid HF
  have HS := Lib.hid HS
  have HB := Lib.hid HB
  go_wp2_with fail
  refine (aw6 _ HF.out).mono ?_
  rintro e w5 ⟨rfl, hb⟩
  have hI := (AwI.mk ⟨c0, c1, c2, c3, c4, c5, c6, c7, c8, c9, c10⟩ ⟨d0, d1, d2, d3, d4, d5, d6, d7, d8, d9, d10⟩ ⟨o0, o1, o2, o3, o4, o5, o6, o7, o8, o9, o10⟩ HF.out HS.out HB.out).step hb
  clear c0 c1 c2 c3 c4 c5 c6 c7 c8 c9 c10 d0 d1 d2 d3 d4 d5 d6 d7 d8 d9 d10 o0 o1 o2 o3 o4 o5 o6 o7 o8 o9 o10 HF HS HB hb
  obtain ⟨⟨c0, c1, c2, c3, c4, c5, c6, c7, c8, c9, c10⟩, ⟨d0, d1, d2, d3, d4, d5, d6, d7, d8, d9, d10⟩, ⟨o0, o1, o2, o3, o4, o5, o6, o7, o8, o9, o10⟩, HF, HS, HB⟩ := hI
  have HF := Lib.hid HF
  have HS := Lib.hid HS
  have HB := Lib.hid HB
  go_wp2_with fail
  refine (aw7 _ (HF.out.alloc _) _ (by simp) (rangeAt_mid _ _ [] (dsL dD) (dsL dC ++ dsL dC) _ 0 rfl rfl) (rangeAt_mid _ _ (dsL dD) (dsL dC) (dsL dC) _ 11 rfl rfl) (rangeAt_mid _ _ (dsL dD ++ dsL dC) (dsL dC) [] _ 22 rfl rfl)).mono ?_
  rintro e w8 ⟨rfl, hb⟩
  have hb := (((Below.refl _ _).alloc (Nat.le_refl _) _).trans (hb.mono (by simp)))
  have hI := (AwI.mk ⟨c0, c1, c2, c3, c4, c5, c6, c7, c8, c9, c10⟩ ⟨d0, d1, d2, d3, d4, d5, d6, d7, d8, d9, d10⟩ ⟨o0, o1, o2, o3, o4, o5, o6, o7, o8, o9, o10⟩ HF.out HS.out HB.out).step hb
  clear c0 c1 c2 c3 c4 c5 c6 c7 c8 c9 c10 d0 d1 d2 d3 d4 d5 d6 d7 d8 d9 d10 o0 o1 o2 o3 o4 o5 o6 o7 o8 o9 o10 HF HS HB hb
  obtain ⟨⟨c0, c1, c2, c3, c4, c5, c6, c7, c8, c9, c10⟩, ⟨d0, d1, d2, d3, d4, d5, d6, d7, d8, d9, d10⟩, ⟨o0, o1, o2, o3, o4, o5, o6, o7, o8, o9, o10⟩, HF, HS, HB⟩ := hI
  have HF := Lib.hid HF
  have HS := Lib.hid HS
  have HB := Lib.hid HB
  obtain ⟨f0, f1, f2, f3, f4, f5, f6, f7, f8, f9, f10⟩ := dO_facts
  go_wp2_with fail
  refine (aw5 _ HF.out).mono ?_
  rintro e w9 ⟨rfl, hb9⟩
  clear c0 c1 c2 c3 c4 c5 c6 c7 c8 c9 c10 d0 d1 d2 d3 d4 d5 d6 d7 d8 d9 d10 o0 o1 o2 o3 o4 o5 o6 o7 o8 o9 o10
  go_wp2
  go_ret
  exact ⟨rfl, HB.out.trans (hb9.mono HB.out.size)⟩
end Go.Proofs.YtljcmjcfebpkoaaDoor
