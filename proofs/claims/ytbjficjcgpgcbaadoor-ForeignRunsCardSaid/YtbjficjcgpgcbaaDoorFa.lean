/- Records of package foreign as boxes. -/
import Derived.Test.YtbjficjcgpgcbaaDoorOk35
import Derived.Test.YtbjficjcgpgcbaaDoorMg
import Derived.Test.YtbjficjcgpgcbaaDoorFrn
namespace Go.Proofs.YtbjficjcgpgcbaaDoor
open Go Go.RowKit SX Frm Frn
set_option linter.unusedVariables false
set_option linter.unusedSimpArgs false

def noKeep : FuncId → Nat → List Nat := fun _ _ => []
/-! ### A heap out of boxes -/
section
variable {ρ : Env} {w : World}
/-- Boxes at blocks that differ: a known heap; the boxes that may be written may be written. -/
theorem heap_of {N : Nat} {box : Nat → Box} {β : Bm} (hl : ∀ k, k < N → (box k).c.lies ρ β (β k) w) (hinj : ∀ j k, j < N → k < N → (β j).1 = (β k).1 → j = k) (hok : ∀ k, k < N → (box k).c.ok ρ N)
    (harr : ∀ k, k < N → (box k).c.isArr = true → (box k).rw = false ∧ (β k).1 < w.heap.size) (hobj : ∀ k, k < N → (box k).c.isObj = false) :
    Heap ρ w (fun i => ∃ k, k < N ∧ (box k).rw = true ∧ (β k).1 = i) β ⟨N, box⟩ w := by
  have key : ∀ (k : Nat) (b : Box), (⟨N, box⟩ : Hp).at k = some b → k < N ∧ box k = b := fun k b hk => Hp.at_some.1 hk
  refine ⟨fun k b hk => ?_, fun j k b b' hj hk _ _ e => hinj j k (key j b hj).1 (key k b' hk).1 e, fun k b hk hr _ => .inl ⟨k, (key k b hk).1, by rw [(key k b hk).2]; exact hr, rfl⟩, fun k b hk => ?_, Kept.refl w _, fun k b hk ha => ?_, ObjsOk.none fun k b hk => ?_⟩
  · obtain ⟨h1, rfl⟩ := key k b hk; exact hl k h1
  · obtain ⟨h1, rfl⟩ := key k b hk; exact hok k h1
  · obtain ⟨h1, rfl⟩ := key k b hk
    obtain ⟨h2, h3⟩ := harr k h1 ha
    refine ⟨h3, fun ⟨j, hj, hr, e⟩ => ?_⟩
    rw [hinj j k hj h1 e, h2] at hr
    cases hr
  · obtain ⟨h1, rfl⟩ := key k b hk; exact hobj k h1
end

/-! ### Data sets -/
def ksE : List IntKind → (Nat → E) → Nat → List SV
  | [], _, _ => []
  | k :: l, f, j => .int k (f j) :: ksE l f (j + 1)
def dsS (f : Nat → E) : List SV := ksE ks11 f 0
section
variable {ρ : Env} {β : Bm}
theorem getD_tail (d : List Int) (i : Nat) : d.tail.getD i 0 = d.getD (i + 1) 0 := by cases d <;> simp
theorem headD_getD (d : List Int) : d.headD 0 = d.getD 0 0 := by cases d <;> simp
theorem ksE_ev : ∀ (l : List IntKind) (f : Nat → E) (j : Nat) (d : List Int), (∀ i, i < l.length → (f (j + i)).ev ρ = d.getD i 0) → SV.evs ρ β (ksE l f j) = valsK l d
  | [], f, j, d, h => rfl
  | k :: l, f, j, d, h => by
    have h0 := h 0 (by simp)
    simp only [ksE, SV.evs, SV.ev, valsK]
    rw [ksE_ev l f (j + 1) d.tail fun i hi => by
      have := h (i + 1) (by simpa using hi)
      rw [getD_tail, show j + 1 + i = j + (i + 1) by omega]; exact this]
    rw [show (f j).ev ρ = d.headD 0 by rw [headD_getD]; exact h0]
theorem ksE_ok {n : Nat} : ∀ (l : List IntKind) (f : Nat → E) (j : Nat) (d : List Int), (∀ i, i < l.length → (f (j + i)).ev ρ = d.getD i 0) → fitsK l d → SV.oks ρ n (ksE l f j)
  | [], f, j, d, h, _ => trivial
  | k :: l, f, j, d, h, hf => by
    refine ⟨?_, ksE_ok l f (j + 1) d.tail (fun i hi => ?_) hf.2.2⟩
    · show (Lit.int k ((f j).ev ρ)).wf = true
      have h0 := h 0 (by simp)
      rw [show (f j).ev ρ = d.headD 0 by rw [headD_getD]; exact h0]
      exact hf.1
    · have := h (i + 1) (by simpa using hi)
      rw [getD_tail, show j + 1 + i = j + (i + 1) by omega]; exact this
theorem dsS_ev {f : Nat → E} {d : List Int} (h : ∀ i, i < 11 → (f i).ev ρ = d.getD i 0) : SV.evs ρ β (dsS f) = dsVals d := ksE_ev ks11 f 0 d fun i hi => by rw [Nat.zero_add]; exact h i hi
theorem dsS_ok {n : Nat} {f : Nat → E} {d : List Int} (h : ∀ i, i < 11 → (f i).ev ρ = d.getD i 0) (hf : fitsK ks11 d) : SV.oks ρ n (dsS f) := ksE_ok ks11 f 0 d (fun i hi => by rw [Nat.zero_add]; exact h i hi) hf
end

/-! ### Variables: 0 to 10 a data set, 11 a time, 12 to 14 window, need, the last time; 15 + 13 i .. record i: its data set, the number of its times, their room; 200 .. the times of one record -/
def recVar (i j : Nat) : E := .var (15 + 13 * i + j)
def rec0 : RV := ([], [])
def recAt (l : List RV) (ts : List (Nat × Nat)) (i j : Nat) : Int :=
  if j < 11 then (l.getD i rec0).1.getD j 0 else if j = 11 then ((l.getD i rec0).2.length : Int) else ((ts.getD i (0, 0)).2 : Int)
def vA (d : List Int) (t win need now : Int) (l : List RV) (ts : List (Nat × Nat)) (tm : List Int) (i : Nat) : Int :=
  if i < 11 then d.getD i 0 else if i = 11 then t else if i = 12 then win else if i = 13 then need else if i = 14 then now else if i < 200 then recAt l ts ((i - 15) / 13) ((i - 15) % 13) else tm.getD (i - 200) 0
def arrA (l : List RV) (a _f : Nat) (j : Int) : Int := (l.getD a rec0).2.getD j.toNat 0
def envR (F : Nat → Nat → List Int → Int) (d : List Int) (t win need now : Int) (l : List RV) (ts : List (Nat × Nat)) (tm : List Int) : Env := ⟨vA d t win need now l ts tm, arrA l, F⟩
def isF (f : Option (Nat × Nat)) (i : Nat) : Bool :=
  match f with
  | some (j, _) => Nat.beq j i
  | none => false
def tmVar (j : Nat) : E := .var (200 + j)
def tmS (k : Nat) : List SV := (List.range k).map fun q => .int .i64 (tmVar q)
def numF (f : Option (Nat × Nat)) : Nat :=
  match f with
  | some (_, k) => k
  | none => 0
def timesS (n i : Nat) (f : Option (Nat × Nat)) : SV := bif isF f i then .slice (2 + n + i) 0 (numF f) none else .inp (2 + n + i) 1 0 (recVar i 11) (recVar i 11) (recVar i 12)
def recS (n i : Nat) (f : Option (Nat × Nat)) : List SV := [.int .u64 (recVar i 7), .int .i64 (recVar i 8)] ++ dsS (recVar i) ++ [timesS n i f]
def timesB (i : Nat) (f : Option (Nat × Nat)) : Box := bif isF f i then ⟨true, .cells (tmS (numF f)) 3 2⟩ else ⟨false, .arr i [.int .i64] (recVar i 11)⟩
def listV (kl n : Nat) : SV := bif Nat.beq n 0 then .raw (.slice none 0 0) else .slice kl 0 n none
def headS (now : E) (kl n : Nat) : List SV := [.int .i64 (.var 12), .int .i64 (.var 13), .int .i64 now, listV kl n]
def boxA (n : Nat) (f : Option (Nat × Nat)) (k : Nat) : Box :=
  bif Nat.beq k 0 then ⟨true, .cells (headS (.var 14) 1 n) 54 0⟩
  else bif Nat.beq k 1 then (bif Nat.beq n 0 then ⟨false, .gone⟩ else ⟨true, .cells ((List.range n).map fun i => .ptr (2 + i) 0) 58 2⟩)
  else bif Nat.blt k (2 + n) then ⟨true, .cells (recS n (k - 2) f) 63 0⟩
  else timesB (k - 2 - n) f
def hpA (n : Nat) (f : Option (Nat × Nat)) : Hp := ⟨2 + n + n, boxA n f⟩
def bmA (n : Nat) (f : Option (Nat × Nat)) (b lb lc : Nat) (ms : List Nat) (ts : List (Nat × Nat)) (k : Nat) : Nat × Nat :=
  if k = 0 then (b, 0) else if k = 1 then (lb, lc) else if k < 2 + n then (ms.getD (k - 2) 0, 0) else if isF f (k - 2 - n) = true then ts.getD (k - 2 - n) (0, 0) else ((ts.getD (k - 2 - n) (0, 0)).1, 0)
/-! ### What is known -/
def rngV (i : Nat) : E × Bool := (.bin .zrng .i64 (.var i) (.lit 0), true)
def lenF (i : Nat) : Fs := [(.bin .lt .i64 (.lit 0) (recVar i 11), true), (.bin .zrng .i64 (recVar i 11) (.lit 0), true), (.bin .lt .i64 (recVar i 12) (recVar i 11), false)]
def factsA (n : Nat) (f : Option (Nat × Nat)) : Fs := [rngV 11, rngV 12, rngV 13, rngV 14] ++ (SV.rngsL (dsS .var) ++ ((List.range n).flatMap (fun i => lenF i ++ SV.rngsL (dsS (recVar i))) ++ SV.rngsL (tmS (numF f))))
section
variable {F : Nat → Nat → List Int → Int} {d : List Int} {t win need now : Int} {l : List RV} {ts : List (Nat × Nat)} {tm : List Int} {β : Bm}
theorem vA_rec (i j : Nat) (hi : i < 5) (hj : j < 13) : (recVar i j).ev (envR F d t win need now l ts tm) = recAt l ts i j := by
  show vA d t win need now l ts tm (15 + 13 * i + j) = _
  unfold vA
  rw [if_neg (by omega), if_neg (by omega), if_neg (by omega), if_neg (by omega), if_neg (by omega), if_pos (by omega), show (15 + 13 * i + j - 15) / 13 = i by omega, show (15 + 13 * i + j - 15) % 13 = j by omega]
theorem rec_d (i : Nat) (hi : i < 5) : ∀ j, j < 11 → (recVar i j).ev (envR F d t win need now l ts tm) = (l.getD i rec0).1.getD j 0 := fun j hj => by
  rw [vA_rec i j hi (by omega)]; unfold recAt; rw [if_pos hj]
theorem rec_len (i : Nat) (hi : i < 5) : (recVar i 11).ev (envR F d t win need now l ts tm) = ((l.getD i rec0).2.length : Int) := by
  rw [vA_rec i 11 hi (by omega)]; rfl
theorem rec_cap (i : Nat) (hi : i < 5) : (recVar i 12).ev (envR F d t win need now l ts tm) = ((ts.getD i (0, 0)).2 : Int) := by
  rw [vA_rec i 12 hi (by omega)]; rfl
theorem tm_ev (j : Nat) : (tmVar j).ev (envR F d t win need now l ts tm) = tm.getD j 0 := by
  show vA d t win need now l ts tm (200 + j) = _
  unfold vA
  rw [if_neg (by omega), if_neg (by omega), if_neg (by omega), if_neg (by omega), if_neg (by omega), if_neg (by omega), show 200 + j - 200 = j by omega]
theorem arg_ev (j : Nat) (hj : j < 11) : (E.var j).ev (envR F d t win need now l ts tm) = d.getD j 0 := by
  show vA d t win need now l ts tm j = _
  unfold vA
  rw [if_pos hj]
theorem ints_ev (ρ : Env) (β : Bm) (g : Nat → E) (tm : List Int) (hg : ∀ j, (g j).ev ρ = tm.getD j 0) : ∀ k, k = tm.length → SV.evs ρ β ((List.range k).map fun q => .int .i64 (g q)) = tm.map (Value.int .i64) := fun k hk => by
  subst hk
  rw [SV.evs_map, List.map_map]
  apply List.ext_getElem?
  intro i
  by_cases hi : i < tm.length
  · simp [List.getElem?_map, List.getElem?_range hi, SV.ev, hg, hi]
  · simp [List.getElem?_map, hi]
end
/-! ### Packed -/
structure RvOk (r : RV) : Prop where
  fits : fitsK ks11 r.1
  pos : 1 ≤ r.2.length
  le : r.2.length ≤ 8
  wf : ∀ x ∈ r.2, (Lit.int .i64 x).wf = true
theorem bmA_0 {n f b lb lc ms ts} : bmA n f b lb lc ms ts 0 = (b, 0) := rfl
theorem bmA_1 {n f b lb lc ms ts} : bmA n f b lb lc ms ts 1 = (lb, lc) := rfl
theorem bmA_r {n f b lb lc ms ts} {i : Nat} (hi : i < n) : bmA n f b lb lc ms ts (2 + i) = (ms.getD i 0, 0) := by
  unfold bmA
  rw [if_neg (by omega), if_neg (by omega), if_pos (by omega), show 2 + i - 2 = i by omega]
theorem bmA_t {n f b lb lc ms ts} {i : Nat} : bmA n f b lb lc ms ts (2 + n + i) = if isF f i = true then ts.getD i (0, 0) else ((ts.getD i (0, 0)).1, 0) := by
  unfold bmA
  rw [if_neg (by omega), if_neg (by omega), if_neg (by omega), show 2 + n + i - 2 - n = i by omega]
theorem bmA_t1 {n f b lb lc ms ts} {i : Nat} : (bmA n f b lb lc ms ts (2 + n + i)).1 = (ts.getD i (0, 0)).1 := by
  rw [bmA_t]; split <;> rfl
theorem boxA_0 {n f} : boxA n f 0 = ⟨true, .cells (headS (.var 14) 1 n) 54 0⟩ := rfl
theorem boxA_1 {n f} (h : 0 < n) : boxA n f 1 = ⟨true, .cells ((List.range n).map fun i => .ptr (2 + i) 0) 58 2⟩ := by
  show (bif Nat.beq n 0 then _ else _) = _
  rw [beq_iff, decide_eq_false (by omega)]; rfl
theorem boxA_10 {f} : boxA 0 f 1 = ⟨false, .gone⟩ := rfl
theorem boxA_r {n f} {i : Nat} (hi : i < n) : boxA n f (2 + i) = ⟨true, .cells (recS n i f) 63 0⟩ := by
  unfold boxA
  rw [beq_iff, beq_iff, blt_iff, decide_eq_false (by omega), decide_eq_false (by omega), decide_eq_true (by omega), show 2 + i - 2 = i by omega]; rfl
theorem boxA_t {n f} {i : Nat} : boxA n f (2 + n + i) = timesB i f := by
  unfold boxA
  rw [beq_iff, beq_iff, blt_iff, decide_eq_false (by omega), decide_eq_false (by omega), decide_eq_false (by omega), show 2 + n + i - 2 - n = i by omega]; rfl
/-- The four sorts of boxes. -/
theorem box_cases {n k : Nat} (hk : k < 2 + n + n) : k = 0 ∨ k = 1 ∨ (∃ i, i < n ∧ k = 2 + i) ∨ ∃ i, i < n ∧ k = 2 + n + i := by
  by_cases h0 : k = 0
  · exact .inl h0
  · by_cases h1 : k = 1
    · exact .inr (.inl h1)
    · by_cases h2 : k < 2 + n
      · exact .inr (.inr (.inl ⟨k - 2, by omega, by omega⟩))
      · exact .inr (.inr (.inr ⟨k - 2 - n, by omega, by omega⟩))
end Go.Proofs.YtbjficjcgpgcbaaDoor
