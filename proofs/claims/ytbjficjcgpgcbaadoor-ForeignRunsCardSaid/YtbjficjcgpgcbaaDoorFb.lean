/- Records of package foreign as boxes: packed. -/
import Derived.Test.YtbjficjcgpgcbaaDoorFa
namespace Go.Proofs.YtbjficjcgpgcbaaDoor
open Go Go.RowKit SX Frm Frn
set_option linter.unusedVariables false
set_option linter.unusedSimpArgs false

theorem evs_append (ρ : Env) (β : Bm) (a b : List SV) : SV.evs ρ β (a ++ b) = SV.evs ρ β a ++ SV.evs ρ β b := by simp only [SV.evs_map, List.map_append]
theorem oks_append {ρ : Env} {n : Nat} {a b : List SV} (ha : SV.oks ρ n a) (hb : SV.oks ρ n b) : SV.oks ρ n (a ++ b) := by
  rw [SV.oks_mem] at *
  intro s hs
  rcases List.mem_append.1 hs with h | h
  · exact ha s h
  · exact hb s h
theorem wfI {n : Int} (h : -9223372036854775808 ≤ n ∧ n ≤ 9223372036854775807) : (Lit.int .i64 n).wf = true := (wf_iff .i64 n).2 (by
  have i1 : IntKind.i64.min = -9223372036854775808 := by decide
  have i2 : IntKind.i64.max = 9223372036854775807 := by decide
  rw [i1, i2]; exact h)
/-- Of a list without two of a kind. -/
structure Apart (b : Nat) (lb : Nat) (ms ts : List Nat) : Prop where
  bl : b ≠ lb
  bm : b ∉ ms
  bt : b ∉ ts
  lm : lb ∉ ms
  lt : lb ∉ ts
  mt : ∀ x ∈ ms, x ∉ ts
  mm : ms.Nodup
  tt : ts.Nodup
theorem getD_mem {α : Type} {l : List α} {d : α} {i : Nat} (h : i < l.length) : l.getD i d ∈ l := by
  rw [getD_lt _ _ h]; exact List.getElem_mem h
theorem getD_some {α : Type} {l : List α} {d : α} {i : Nat} (h : i < l.length) : l[i]? = some (l.getD i d) := by
  rw [getD_lt _ _ h, List.getElem?_eq_getElem h]
theorem nodup_getD {α : Type} {l : List α} {d : α} (hn : l.Nodup) {i j : Nat} (hi : i < l.length) (hj : j < l.length) (h : l.getD i d = l.getD j d) : i = j := by
  rw [getD_lt _ _ hi, getD_lt _ _ hj] at h
  exact (List.getElem_inj (h₀ := hi) (h₁ := hj) hn).1 h
section
variable {F : Nat → Nat → List Int → Int} {d : List Int} {t win need now : Int} {l : List RV} {ts : List (Nat × Nat)} {tm : List Int} {b lb lc n : Nat} {ms : List Nat} {w : World} {f : Option (Nat × Nat)}
theorem lay_anyList (h : LayA win need now [] b lb lc ms ts w) (x y : Nat) : LayA win need now [] b x y ms ts w :=
  ⟨h.lm, h.lt, h.head, fun h => absurd rfl h, h.recs, h.tims, h.nodup⟩
theorem lay_apart (h : LayA win need now l b lb lc ms ts w) (h0 : l = [] → lb = w.heap.size) : Apart b lb ms (ts.map (·.1)) := by
  have hlt : ∀ i, i ∈ blksA l b lb ms ts → i < w.heap.size := fun i hi => h.lt_of hi
  have hn := h.nodup
  by_cases hl : l = []
  · have e := h0 hl
    have hm : ms = [] := List.length_eq_zero_iff.1 (by rw [h.lm, hl]; rfl)
    have ht : ts = [] := List.length_eq_zero_iff.1 (by rw [h.lt, hl]; rfl)
    subst hm ht
    have hb := hlt b (by unfold blksA; simp)
    refine ⟨by omega, by simp, by simp, by simp, by simp, by simp, List.nodup_nil, by simp⟩
  · rw [if_neg hl] at hn
    simp only [List.singleton_append, List.nodup_cons, List.mem_cons, List.mem_append, not_or, List.nodup_append] at hn
    obtain ⟨⟨h1, h2, h3⟩, ⟨h4, h5⟩, h6, h7, h8⟩ := hn
    exact ⟨h1, h2, h3, h4, h5, fun x hx hy => h8 x hx x hy rfl, h6, h7⟩
theorem bmA_inj (h : LayA win need now l b lb lc ms ts w) (hn : l.length = n) (h0 : l = [] → lb = w.heap.size) {j k : Nat} (hj : j < 2 + n + n) (hk : k < 2 + n + n) (e : (bmA n f b lb lc ms ts j).1 = (bmA n f b lb lc ms ts k).1) : j = k := by
  have A := lay_apart h h0
  have hm : ∀ i, i < n → ms.getD i 0 ∈ ms := fun i hi => getD_mem (by rw [h.lm, hn]; exact hi)
  have ht : ∀ i, i < n → (ts.getD i (0, 0)).1 ∈ ts.map (·.1) := fun i hi => List.mem_map.2 ⟨_, getD_mem (by rw [h.lt, hn]; exact hi), rfl⟩
  have key : ∀ j k, j < 2 + n + n → k < 2 + n + n → (bmA n f b lb lc ms ts j).1 = (bmA n f b lb lc ms ts k).1 → j ≤ k → j = k := fun j k hj hk e hle => by
    rcases box_cases hj with rfl | rfl | ⟨i, hi, rfl⟩ | ⟨i, hi, rfl⟩ <;> rcases box_cases hk with rfl | rfl | ⟨i', hi', rfl⟩ | ⟨i', hi', rfl⟩
    · rfl
    · exact absurd e A.bl
    · rw [bmA_r hi'] at e; exact absurd (show b ∈ ms by rw [show b = _ from e]; exact hm i' hi') A.bm
    · rw [bmA_t1] at e; exact absurd (show b ∈ ts.map (·.1) by rw [show b = _ from e]; exact ht i' hi') A.bt
    · omega
    · rfl
    · rw [bmA_r hi'] at e; exact absurd (show lb ∈ ms by rw [show lb = _ from e]; exact hm i' hi') A.lm
    · rw [bmA_t1] at e; exact absurd (show lb ∈ ts.map (·.1) by rw [show lb = _ from e]; exact ht i' hi') A.lt
    · omega
    · omega
    · rw [bmA_r hi, bmA_r hi'] at e
      have := nodup_getD (d := 0) A.mm (by rw [h.lm, hn]; exact hi) (by rw [h.lm, hn]; exact hi') e
      omega
    · rw [bmA_r hi, bmA_t1] at e
      exact absurd (show ms.getD i 0 ∈ ts.map (·.1) by rw [show ms.getD i 0 = _ from e]; exact ht i' hi') (A.mt _ (hm i hi))
    · omega
    · omega
    · omega
    · rw [bmA_t1, bmA_t1] at e
      have e1 : ∀ q, q < n → (ts.map (·.1)).getD q 0 = (ts.getD q (0, 0)).1 := fun q hq => by
        have hq' : q < ts.length := by rw [h.lt, hn]; exact hq
        rw [getD_lt _ _ (by simpa using hq'), getD_lt _ _ hq']; simp
      have := nodup_getD (d := 0) A.tt (i := i) (j := i') (by simp [h.lt, hn, hi]) (by simp [h.lt, hn, hi']) (by rw [e1 i hi, e1 i' hi']; exact e)
      omega
  by_cases hle : j ≤ k
  · exact key j k hj hk e hle
  · exact (key k j hk hj e.symm (by omega)).symm
/-- What the records hold, as boxes. -/
structure PackOk (l : List RV) (tm : List Int) (win need now : Int) (n : Nat) (f : Option (Nat × Nat)) : Prop where
  len : l.length = n
  five : n ≤ 5
  recs : ∀ r ∈ l, RvOk r
  wfs : (Lit.int .i64 win).wf = true ∧ (Lit.int .i64 need).wf = true ∧ (Lit.int .i64 now).wf = true
  fnd : ∀ i k, f = some (i, k) → i < n ∧ tm = (l.getD i rec0).2 ∧ k = tm.length
theorem isF_spec {i : Nat} (h : isF f i = true) : ∃ k, f = some (i, k) := by
  unfold isF at h
  split at h
  · rename_i j k
    obtain rfl := Nat.eq_of_beq_eq_true h
    exact ⟨k, rfl⟩
  · cases h
theorem lay_cap (h : LayA win need now l b lb lc ms ts w) {i : Nat} (hi : i < l.length) : (l.getD i rec0).2.length ≤ (ts.getD i (0, 0)).2 := by
  obtain ⟨rest, _, h2⟩ := h.tims i _ _ (getD_some (d := rec0) hi) (getD_some (d := (0, 0)) (by rw [h.lt]; exact hi))
  omega
theorem headS_ev (β : Bm) (kl : Nat) (e : E) (hk : n ≠ 0 → β kl = (lb, lc)) : SV.evs (envR F d t win need now l ts tm) β (headS e kl n) = [.int .i64 win, .int .i64 need, .int .i64 (e.ev (envR F d t win need now l ts tm)), if n = 0 then .slice none 0 0 else slV lb n lc] := by
  have e1 : SV.ev (envR F d t win need now l ts tm) β (listV kl n) = if n = 0 then .slice none 0 0 else slV lb n lc := by
    unfold listV
    rw [beq_iff]
    by_cases h0 : n = 0
    · rw [decide_eq_true h0, if_pos h0]; rfl
    · rw [decide_eq_false h0, if_neg h0]
      show Value.slice (some ⟨(β kl).1, 0, none⟩) n (Option.getD none (β kl).2) = _
      rw [hk h0]; rfl
  show [Value.int .i64 win, .int .i64 need, .int .i64 _, SV.ev _ β (listV kl n)] = _
  rw [e1]
theorem ptrs_ev (ρ : Env) (β : Bm) (ms : List Nat) (g : Nat → Nat) : ∀ k, k = ms.length → (∀ i, i < k → (β (g i)).1 = ms.getD i 0) → SV.evs ρ β ((List.range k).map fun i => .ptr (g i) 0) = ms.map ptrV := fun k hk hb => by
  subst hk
  rw [SV.evs_map, List.map_map]
  apply List.ext_getElem?
  intro i
  by_cases hi : i < ms.length
  · have := hb i hi
    rw [getD_lt _ _ hi] at this
    simp [hi, SV.ev, this, ptrV]
  · simp [hi]
theorem recS_ev (hP : PackOk l tm win need now n f) (h : LayA win need now l b lb lc ms ts w) {i : Nat} (hi : i < n) :
    SV.evs (envR F d t win need now l ts tm) (bmA n f b lb lc ms ts) (recS n i f) = recV (l.getD i rec0) (ts.getD i (0, 0)) := by
  have h5 : i < 5 := Nat.lt_of_lt_of_le hi hP.five
  have e1 : SV.ev (envR F d t win need now l ts tm) (bmA n f b lb lc ms ts) (timesS n i f) = slV (ts.getD i (0, 0)).1 (l.getD i rec0).2.length (ts.getD i (0, 0)).2 := by
    unfold timesS
    cases hF : isF f i with
    | true =>
      obtain ⟨k, rfl⟩ := isF_spec hF
      obtain ⟨h1, h2, h3⟩ := hP.fnd i k rfl
      show Value.slice (some ⟨(bmA n _ b lb lc ms ts (2 + n + i)).1, 0, none⟩) k (Option.getD none (bmA n _ b lb lc ms ts (2 + n + i)).2) = _
      rw [bmA_t, if_pos hF, h3, h2]; rfl
    | false =>
      show Value.slice (some ⟨(bmA n f b lb lc ms ts (2 + n + i)).1, (bmA n f b lb lc ms ts (2 + n + i)).2 + 0, none⟩) ((recVar i 11).ev _).toNat ((recVar i 12).ev _).toNat = _
      rw [bmA_t, if_neg (by rw [hF]; exact Bool.noConfusion), rec_len i h5, rec_cap i h5]; rfl
  unfold recS recV
  rw [evs_append, evs_append, dsS_ev (rec_d i h5)]
  congr 1
  · congr 1
    show [Value.int .u64 ((recVar i 7).ev _), .int .i64 ((recVar i 8).ev _)] = _
    rw [rec_d i h5 7 (by decide), rec_d i h5 8 (by decide)]
  · show [SV.ev _ _ (timesS n i f)] = _
    rw [e1]
theorem tmS_ev (hP : PackOk l tm win need now n f) {i k : Nat} (hf : f = some (i, k)) (β : Bm) : SV.evs (envR F d t win need now l ts tm) β (tmS (numF f)) = (l.getD i rec0).2.map (Value.int .i64) := by
  obtain ⟨h1, h2, h3⟩ := hP.fnd i k hf
  subst hf
  rw [← h2]
  exact ints_ev _ β tmVar tm (fun j => tm_ev j) k h3
theorem tmS_ok (hP : PackOk l tm win need now n f) {i k : Nat} (hf : f = some (i, k)) (q : Nat) : SV.oks (envR F d t win need now l ts tm) q (tmS (numF f)) := by
  obtain ⟨h1, h2, h3⟩ := hP.fnd i k hf
  subst hf
  rw [SV.oks_mem]
  intro s hs
  obtain ⟨j, hj, rfl⟩ := List.mem_map.1 hs
  have hj' : j < tm.length := by rw [← h3]; exact List.mem_range.1 hj
  show (Lit.int .i64 ((tmVar j).ev _)).wf = true
  rw [tm_ev j]
  refine (hP.recs (l.getD i rec0) (getD_mem (by rw [hP.len]; exact h1))).wf _ ?_
  rw [← h2]
  exact getD_mem hj'
theorem recS_ok (hP : PackOk l tm win need now n f) (h : LayA win need now l b lb lc ms ts w) {i : Nat} (hi : i < n) : SV.oks (envR F d t win need now l ts tm) (2 + n + n) (recS n i f) := by
  have h5 : i < 5 := Nat.lt_of_lt_of_le hi hP.five
  have hl : i < l.length := by rw [hP.len]; exact hi
  have hr := hP.recs (l.getD i rec0) (getD_mem hl)
  have hd : SV.oks (envR F d t win need now l ts tm) (2 + n + n) (dsS (recVar i)) := dsS_ok (rec_d i h5) hr.fits
  refine oks_append (oks_append ⟨?_, ?_, trivial⟩ hd) ⟨?_, trivial⟩
  · have : SV.int .u64 (recVar i 7) ∈ dsS (recVar i) := by simp [dsS, ksE, ks11]
    exact SV.oks_mem.1 hd _ this
  · have : SV.int .i64 (recVar i 8) ∈ dsS (recVar i) := by simp [dsS, ksE, ks11]
    exact SV.oks_mem.1 hd _ this
  · unfold timesS
    cases hF : isF f i with
    | true => exact show 2 + n + i < 2 + n + n by omega
    | false =>
      have hc := lay_cap h hl
      have h1 := hr.pos
      have h8 := hr.le
      refine ⟨by omega, ?_, ?_, ?_, ?_⟩
      · rw [rec_len i h5]; exact wfI (by omega)
      · rw [rec_len i h5]; omega
      · rw [rec_len i h5, rec_cap i h5]; omega
      · omega
theorem pack_A (hP : PackOk l tm win need now n f) (h : LayA win need now l b lb lc ms ts w) (h0 : l = [] → lb = w.heap.size) :
    Heap (envR F d t win need now l ts tm) w (fun i => ∃ k, k < 2 + n + n ∧ (boxA n f k).rw = true ∧ (bmA n f b lb lc ms ts k).1 = i) (bmA n f b lb lc ms ts) (hpA n f) w := by
  have hl : ∀ i, i < n → l[i]? = some (l.getD i rec0) := fun i hi => getD_some (by rw [hP.len]; exact hi)
  have hm : ∀ i, i < n → ms[i]? = some (ms.getD i 0) := fun i hi => getD_some (by rw [h.lm, hP.len]; exact hi)
  have ht : ∀ i, i < n → ts[i]? = some (ts.getD i (0, 0)) := fun i hi => getD_some (by rw [h.lt, hP.len]; exact hi)
  have hne : n ≠ 0 → l ≠ [] := fun h1 h2 => h1 (by rw [← hP.len, h2]; rfl)
  refine heap_of (fun k hk => ?_) (fun j k hj hk e => bmA_inj h hP.len h0 hj hk e) (fun k hk => ?_) (fun k hk ha => ?_) (fun k hk => ?_)
  · rcases box_cases hk with rfl | rfl | ⟨i, hi, rfl⟩ | ⟨i, hi, rfl⟩
    · rw [boxA_0]
      show w.heap[b]? = some (.cells (SV.evs _ _ (headS (.var 14) 1 n)).toArray _ (0, 0))
      rw [headS_ev (lb := lb) (lc := lc) _ 1 (.var 14) (fun _ => rfl), h.head]
      have e : (E.var 14).ev (envR F d t win need now l ts tm) = now := rfl
      rw [e, ← hP.len]
      by_cases hz : l = []
      · rw [if_pos hz, if_pos (by rw [hz]; rfl)]
      · rw [if_neg hz, if_neg (by rw [List.length_eq_zero_iff]; exact hz)]
    · by_cases hz : n = 0
      · subst hz; rw [boxA_10]; trivial
      · rw [boxA_1 (by omega)]
        obtain ⟨rest, r1, r2⟩ := h.list (hne hz)
        refine ⟨rest, ?_, ?_⟩
        · show w.heap[lb]? = _
          rw [ptrs_ev _ _ ms (fun i => 2 + i) n (by rw [h.lm, hP.len]) (fun i hi => by rw [bmA_r hi]), r1]
        · show _ = lc * 1
          rw [List.length_map, List.length_range, ← hP.len]; omega
    · rw [boxA_r hi, bmA_r hi]
      show w.heap[ms.getD i 0]? = some (.cells (SV.evs _ _ (recS n i f)).toArray _ (0, 0))
      rw [recS_ev hP h hi]
      exact h.recs i _ _ _ (hl i hi) (hm i hi) (ht i hi)
    · rw [boxA_t]
      obtain ⟨rest, r1, r2⟩ := h.tims i _ _ (hl i hi) (ht i hi)
      unfold timesB
      cases hF : isF f i with
      | true =>
        obtain ⟨k, hk'⟩ := isF_spec hF
        refine ⟨rest, ?_, ?_⟩
        · rw [bmA_t1, tmS_ev hP hk', r1]
        · rw [bmA_t, if_pos hF]
          obtain ⟨h1, h2, h3⟩ := hP.fnd i k hk'
          subst hk'
          show ((List.range k).map _).length + rest.length = _ * 1
          rw [List.length_map, List.length_range, h3, h2]
          omega
      | false =>
        intro j g q hj hq
        have h5 : i < 5 := Nat.lt_of_lt_of_le hi hP.five
        rw [rec_len i h5] at hj
        have hj' : j < (l.getD i rec0).2.length := by omega
        match g, hq with
        | 0, hq =>
          obtain rfl : Lk.int .i64 = q := by simpa using hq
          have hv : (envR F d t win need now l ts tm).rd i (Lk.code (.int .i64) 0) j = (l.getD i rec0).2.getD j 0 := by
            have hw := (hP.recs _ (getD_mem (d := rec0) (show i < l.length by rw [hP.len]; exact hi))).wf _ (getD_mem (d := 0) hj')
            show IntKind.i64.wrap ((l.getD i rec0).2.getD (j : Int).toNat 0) = _
            rw [Int.toNat_natCast]
            exact wrap_fit ((wf_iff .i64 _).1 hw)
          rw [hv]
          refine ⟨?_, (hP.recs _ (getD_mem (d := rec0) (show i < l.length by rw [hP.len]; exact hi))).wf _ (getD_mem (d := 0) hj')⟩
          rw [bmA_t, if_neg (by rw [hF]; exact Bool.noConfusion)]
          show w.cell? ⟨(ts.getD i (0, 0)).1, 0 + (j * 1 + 0), none⟩ = _
          unfold World.cell?
          simp only [r1]
          rw [show 0 + (j * 1 + 0) = j by omega]
          generalize (l.getD i rec0).2 = q at hj' ⊢
          simp [Lk.val, List.getElem?_append, hj']
        | g + 1, hq => simp at hq
  · rcases box_cases hk with rfl | rfl | ⟨i, hi, rfl⟩ | ⟨i, hi, rfl⟩
    · rw [boxA_0]
      refine ⟨hP.wfs.1, hP.wfs.2.1, hP.wfs.2.2, ?_, trivial⟩
      unfold listV
      rw [beq_iff]
      by_cases hz : n = 0
      · rw [decide_eq_true hz]; trivial
      · rw [decide_eq_false hz]; exact show 1 < 2 + n + n by omega
    · by_cases hz : n = 0
      · subst hz; rw [boxA_10]; trivial
      · rw [boxA_1 (by omega)]
        show SV.oks _ _ ((List.range n).map fun i => SV.ptr (2 + i) 0)
        rw [SV.oks_mem]
        intro s hs
        obtain ⟨i, hi, rfl⟩ := List.mem_map.1 hs
        have := List.mem_range.1 hi
        exact show 2 + i < 2 + n + n by omega
    · rw [boxA_r hi]; exact recS_ok hP h hi
    · rw [boxA_t]
      unfold timesB
      cases hF : isF f i with
      | true =>
        obtain ⟨k, hk'⟩ := isF_spec hF
        exact tmS_ok hP hk' _
      | false => trivial
  · rcases box_cases hk with rfl | rfl | ⟨i, hi, rfl⟩ | ⟨i, hi, rfl⟩
    · rw [boxA_0] at ha; cases ha
    · by_cases hz : n = 0
      · subst hz; rw [boxA_10] at ha; cases ha
      · rw [boxA_1 (by omega)] at ha; cases ha
    · rw [boxA_r hi] at ha; cases ha
    · rw [boxA_t] at ha ⊢
      unfold timesB at ha ⊢
      cases hF : isF f i with
      | true => rw [hF] at ha; cases ha
      | false =>
        rw [bmA_t1]
        obtain ⟨rest, r1, r2⟩ := h.tims i _ _ (hl i hi) (ht i hi)
        exact ⟨rfl, blk_lt r1⟩
  · rcases box_cases hk with rfl | rfl | ⟨i, hi, rfl⟩ | ⟨i, hi, rfl⟩
    · rfl
    · by_cases hz : n = 0
      · subst hz; rfl
      · rw [boxA_1 (by omega)]; rfl
    · rw [boxA_r hi]; rfl
    · rw [boxA_t]
      unfold timesB
      cases hF : isF f i <;> rfl
/-- What is known of the numbers. -/
theorem factsA_ok (hP : PackOk l tm win need now n f) (h : LayA win need now l b lb lc ms ts w) (hd : fitsK ks11 d) (ht : (Lit.int .i64 t).wf = true) : SX.FsOk (envR F d t win need now l ts tm) (factsA n f) := by
  have zr : ∀ i, (Lit.int .i64 ((E.var i).ev (envR F d t win need now l ts tm))).wf = true → ((rngV i).1.ev (envR F d t win need now l ts tm) ≠ 0 ↔ (rngV i).2 = true) := fun i hi => by
    have := (wf_iff .i64 _).1 hi
    show (if IntKind.i64.min ≤ (E.var i).ev _ ∧ (E.var i).ev _ ≤ IntKind.i64.max then (1 : Int) else 0) ≠ 0 ↔ _
    rw [if_pos this]
    exact ⟨fun _ => rfl, fun _ => by decide⟩
  refine fsOk_app ?_ (fsOk_app (SV.rngsL_ok (n := 0) (dsS_ok (fun i hi => arg_ev i hi) hd)) (fsOk_app ?_ ?_))
  · intro p hp
    simp only [List.mem_cons, List.not_mem_nil, or_false] at hp
    rcases hp with rfl | rfl | rfl | rfl
    · exact zr 11 ht
    · exact zr 12 hP.wfs.1
    · exact zr 13 hP.wfs.2.1
    · exact zr 14 hP.wfs.2.2
  · intro p hp
    obtain ⟨i, hi, hp⟩ := List.mem_flatMap.1 hp
    have hi' : i < n := List.mem_range.1 hi
    have h5 : i < 5 := Nat.lt_of_lt_of_le hi' hP.five
    have hl : i < l.length := by rw [hP.len]; exact hi'
    have hr := hP.recs (l.getD i rec0) (getD_mem hl)
    have hc := lay_cap h hl
    have h1 := hr.pos
    have h8 := hr.le
    rcases List.mem_append.1 hp with hp | hp
    · simp only [lenF, List.mem_cons, List.not_mem_nil, or_false] at hp
      have i1 : IntKind.i64.min = -9223372036854775808 := by decide
      have i2 : IntKind.i64.max = 9223372036854775807 := by decide
      rcases hp with rfl | rfl | rfl
      · show (if 0 < (recVar i 11).ev _ then (1 : Int) else 0) ≠ 0 ↔ _
        rw [rec_len i h5, if_pos (by omega)]; exact ⟨fun _ => rfl, fun _ => by decide⟩
      · show (if IntKind.i64.min ≤ (recVar i 11).ev _ ∧ (recVar i 11).ev _ ≤ IntKind.i64.max then (1 : Int) else 0) ≠ 0 ↔ _
        rw [rec_len i h5, i1, i2, if_pos (by omega)]; exact ⟨fun _ => rfl, fun _ => by decide⟩
      · show (if (recVar i 12).ev _ < (recVar i 11).ev _ then (1 : Int) else 0) ≠ 0 ↔ _
        rw [rec_len i h5, rec_cap i h5, if_neg (by omega)]; simp
    · exact SV.rngsL_ok (n := 0) (dsS_ok (rec_d i h5) hr.fits) p hp
  · cases hf : f with
    | none => intro p hp; simp [numF, tmS, SV.rngsL] at hp
    | some q =>
      obtain ⟨i, k⟩ := q
      rw [← hf]
      exact SV.rngsL_ok (n := 0) (tmS_ok hP hf 0)
end
end Go.Proofs.YtbjficjcgpgcbaaDoor
