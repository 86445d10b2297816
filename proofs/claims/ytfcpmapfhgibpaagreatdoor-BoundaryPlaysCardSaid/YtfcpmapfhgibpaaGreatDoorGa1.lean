/- The reference's records as boxes. -/
import Derived.Test.YtfcpmapfhgibpaaGreatDoorWi
import Derived.Test.YtfcpmapfhgibpaaGreatDoorWf
set_option linter.unusedVariables false
set_option linter.unusedSimpArgs false
set_option maxRecDepth 1000000
namespace Go.Proofs.YtfcpmapfhgibpaaGreatDoor
noncomputable section
open Go Go.RowKit SX Frm Frn
def lenB' (i : Nat) : E := .var (15 + 2 * i)
def capB' (i : Nat) : E := .var (16 + 2 * i)
def msgK : List IntKind := ks11 ++ [.i64]
def msgLk : List Lk := msgK.map Lk.int
def rowB (i : Nat) : SV := .inp (2 + i) 12 0 (lenB' i) (lenB' i) (capB' i)
def hdB (now : E) (kl n : Nat) : List SV := [.int .i64 (.var 12), .int .i64 (.var 13), listV kl n, .int .i64 now]
def boxB (n k : Nat) : Box :=
 bif Nat.beq k 0 then ⟨true, .cells (hdB (.var 14) 1 n) 121 0⟩
 else bif Nat.beq k 1 then (bif Nat.beq n 0 then ⟨false, .gone⟩ else ⟨true, .cells ((List.range n).map rowB) 148 2⟩)
 else ⟨false, .arr (k - 2) msgLk (lenB' (k - 2))⟩
def hpB (n : Nat) : Hp := ⟨2 + n, boxB n⟩
abbrev Tb := List (Nat × Nat × Nat)
def vB (d : List Int) (t : Int) (s : FS) (ts : Tb) (i : Nat) : Int :=
 if i < 11 then d.getD i 0 else if i = 11 then t else if i = 12 then s.win else if i = 13 then s.need else if i = 14 then s.now else if (i - 15) % 2 = 0 then ((s.l.getD ((i - 15) / 2) []).length : Int) else ((ts.getD ((i - 15) / 2) (0, 0, 0)).2.2 : Int)
def fldM (m : Msg) (g : Nat) : Int := if g < 11 then m.d.getD g 0 else m.t
def msg0 : Msg := ⟨[], 0⟩
def arrM (l : List (List Msg)) (a f : Nat) (j : Int) : Int := fldM ((l.getD a []).getD j.toNat msg0) (f / 8)
def envB (F : Mng) (d : List Int) (t : Int) (s : FS) (ts : Tb) : Env := ⟨vB d t s ts, arrM s.l, F⟩
def bmB (b lb lc : Nat) (ts : Tb) (k : Nat) : Nat × Nat :=
 if k = 0 then (b, 0) else if k = 1 then (lb, lc) else ((ts.getD (k - 2) (0, 0, 0)).1, (ts.getD (k - 2) (0, 0, 0)).2.1)
def lenFB (i : Nat) : Fs := [(.bin .lt .i64 (.lit 0) (lenB' i), true), (.bin .zrng .i64 (lenB' i) (.lit 0), true), (.bin .lt .i64 (capB' i) (lenB' i), false)]
def factsB (n : Nat) : Fs := [rngV 11, rngV 12, rngV 13, rngV 14] ++ (SV.rngsL (dsS .var) ++ (List.range n).flatMap lenFB)
theorem valsK_get : ∀ (ks : List IntKind) (d : List Int) (g : Nat), (valsK ks d)[g]? = (ks[g]?).map fun k => Value.int k (d.getD g 0)
 | [], _, _ => rfl
 | k :: ks, d, 0 => by
  show some (Value.int k (d.headD 0)) = some (Value.int k (d.getD 0 0)); rw [headD_getD]
 | k :: ks, d, g + 1 => by
  show (valsK ks d.tail)[g]? = (ks[g]?).map fun k => Value.int k (d.getD (g + 1) 0)
  rw [valsK_get ks d.tail g, getD_tail]
theorem fitsK_get : ∀ {ks : List IntKind} {d : List Int}, fitsK ks d -> ∀ (g : Nat) (k : IntKind), ks[g]? = some k -> (Lit.int k (d.getD g 0)).wf = true
 | [], _, _, g, k, h => by cases h
 | k :: ks, d, hf, 0, k', h => by
  obtain rfl : k = k' := sinj h; rw [<- headD_getD]; exact hf.1
 | k :: ks, d, hf, g + 1, k', h => by
  rw [<- getD_tail]; exact fitsK_get hf.2.2 g k' h
theorem msgV_get (m : Msg) (g : Nat) : (msgV m)[g]? = (msgK[g]?).map fun k => Value.int k (fldM m g) := by
 unfold msgV msgK fldM
 by_cases hg : g < 11
 ·have h1 : g < (dsVals m.d).length := by
   have : (dsVals m.d).length = 11 := rfl; omega
  rw [lAp h1, lAp (show g < ks11.length from hg), if_pos hg]; exact valsK_get ks11 m.d g
 ·have h1 : (dsVals m.d).length = 11 := rfl
  have h2 : ks11.length = 11 := rfl; rw [List.getElem?_append_right (by omega), List.getElem?_append_right (by omega), h1, h2, if_neg hg]
  cases h : g - 11 with
  | zero => rfl
  | succ n => rfl
theorem fld_fits {now : Int} {m : Msg} (h : MsgOk now m) (hn : now <= maxSim) {g : Nat} {k : IntKind} (hk : msgK[g]? = some k) : (Lit.int k (fldM m g)).wf = true := by
 unfold msgK at hk; unfold fldM; have h2 : ks11.length = 11 := rfl
 by_cases hg : g < 11
 ·rw [lAp (by omega)] at hk
  rw [if_pos hg]; exact fitsK_get h.fits g k hk
 ·rw [List.getElem?_append_right (by omega), h2] at hk
  rw [if_neg hg]; cases hh : g - 11 with
  | zero =>
   rw [hh] at hk; obtain rfl : IntKind.i64 = k := sinj hk; exact msg_wf h hn
  | succ n => rw [hh] at hk; cases hk
section
variable {F : Mng} {d : List Int} {t : Int} {s : FS} {ts : Tb} {b lb lc n : Nat} {w w' : World}
theorem len_evB {i : Nat} : (lenB' i).ev (envB F d t s ts) = ((s.l.getD i []).length : Int) := by
 show vB d t s ts (15 + 2 * i) = _; unfold vB; rw [if_neg (by omega), if_neg (by omega), if_neg (by omega), if_neg (by omega), if_neg (by omega), if_pos (by omega), show (15 + 2 * i - 15) / 2 = i by omega]
theorem cap_evB {i : Nat} : (capB' i).ev (envB F d t s ts) = ((ts.getD i (0, 0, 0)).2.2 : Int) := by
 show vB d t s ts (16 + 2 * i) = _; unfold vB; rw [if_neg (by omega), if_neg (by omega), if_neg (by omega), if_neg (by omega), if_neg (by omega), if_neg (by omega), show (16 + 2 * i - 15) / 2 = i by omega]
theorem arg_evB (j : Nat) (hj : j < 11) : (E.var j).ev (envB F d t s ts) = d.getD j 0 := by
 show vB d t s ts j = _; unfold vB; rw [if_pos hj]
theorem rd_evB (hs : RsOk s) {i j : Nat} (hi : i < s.l.length) (hj : j < (s.l.getD i []).length) {g : Nat} {k : IntKind} (hk : msgK[g]? = some k) {e : E} (he : e.ev (envB F d t s ts) = (j : Int)) : (E.rd i (Lk.code (.int k) g) e).ev (envB F d t s ts) = fldM ((s.l.getD i []).getD j msg0) g /\ (Lit.int k (fldM ((s.l.getD i []).getD j msg0) g)).wf = true := by
 have hm := hs.msgs _ (getD_mem (d := []) hi) _ (getD_mem (d := msg0) hj); have hf := fld_fits hm hs.now.2 hk; refine ⟨?_, hf⟩; show (kOf (8 * g + kTag k)).wrap (fldM ((s.l.getD i []).getD (e.ev _).toNat msg0) ((8 * g + kTag k) / 8)) = _; have ht : kTag k < 8 := by cases k <;> decide
 rw [kOf_code, he, Int.toNat_natCast, show (8 * g + kTag k) / 8 = g by omega]
 exact wrap_fit ((wf_iff k _).1 hf)
theorem boxB_0 : boxB n 0 = ⟨true, .cells (hdB (.var 14) 1 n) 121 0⟩ := rfl
theorem boxB_1 (h : 0 < n) : boxB n 1 = ⟨true, .cells ((List.range n).map rowB) 148 2⟩ := by
 show (bif Nat.beq n 0 then _ else _) = _; rw [beq_iff, decide_eq_false (by omega)]; rfl
theorem boxB_r {i : Nat} : boxB n (2 + i) = ⟨false, .arr i msgLk (lenB' i)⟩ := by
 unfold boxB; rw [beq_iff, beq_iff, decide_eq_false (by omega), decide_eq_false (by omega), show 2 + i - 2 = i by omega]; rfl
theorem bmB_r {i : Nat} : bmB b lb lc ts (2 + i) = ((ts.getD i (0, 0, 0)).1, (ts.getD i (0, 0, 0)).2.1) := by
 unfold bmB; rw [if_neg (by omega), if_neg (by omega), show 2 + i - 2 = i by omega]
theorem boxB_cases {k : Nat} (hk : k < 2 + n) : k = 0 \/ k = 1 \/ ∃ i, i < n /\ k = 2 + i := by
 by_cases h0 : k = 0
 ·exact .inl h0
 ·by_cases h1 : k = 1
  ·exact .inr (.inl h1)
  ·exact .inr (.inr ⟨k - 2, by omega, by omega⟩)
theorem ObB.nilList (h : LayB s.win s.need s.now s.l b lb lc ts w) : ∃ lb', LayB s.win s.need s.now s.l b lb' lc ts w /\ (blksB s.l b lb' ts = blksB s.l b lb ts) /\ (s.l = [] -> lb' = w.heap.size) := by
 by_cases hl : s.l = []
 ·refine ⟨w.heap.size, ?_, ?_, fun _ => rfl⟩
  ·rw [hl] at h ⊢
   exact ⟨h.lt, h.head, fun h => absurd rfl h, h.msgs, h.nodup⟩
  ·unfold blksB; rw [if_pos hl, if_pos hl]
 ·exact ⟨lb, h, rfl, fun e => absurd e hl⟩
theorem bmB_inj (h : LayB s.win s.need s.now s.l b lb lc ts w) (hn : s.l.length = n) (h0 : s.l = [] -> lb = w.heap.size) {j k : Nat} (hj : j < 2 + n) (hk : k < 2 + n) (e : (bmB b lb lc ts j).1 = (bmB b lb lc ts k).1) : j = k := by
 have ht : ∀ i, i < n -> (ts.getD i (0, 0, 0)).1 ∈ ts.map (·.1) := fun i hi => List.mem_map.2 ⟨_, getD_mem (by rw [h.lt, hn]; exact hi), rfl⟩
 have hbl : b ≠ lb /\ b ∉ ts.map (·.1) /\ lb ∉ ts.map (·.1) /\ (ts.map (·.1)).Nodup := by
  have hnd := h.nodup
  by_cases hl : s.l = []
  ·have ht0 : ts = [] := List.length_eq_zero_iff.1 (by rw [h.lt, hl]; rfl)
   have hb := h.lt_of (i := b) (by unfold blksB; simp)
   rw [h0 hl, ht0]; exact ⟨by omega, by simp, by simp, by simp⟩
  ·rw [if_neg hl] at hnd
   simp only [List.singleton_append, List.nodup_cons, mCo, not_or] at hnd; exact ⟨hnd.1.1, hnd.1.2, hnd.2.1, hnd.2.2⟩
 obtain ⟨h1, h2, h3, h4⟩ := hbl
 have key : ∀ j k, j < 2 + n -> k < 2 + n -> (bmB b lb lc ts j).1 = (bmB b lb lc ts k).1 -> j <= k -> j = k := fun j k hj hk e hle => by
  rcases boxB_cases hj with rfl | rfl | ⟨i, hi, rfl⟩ <;> rcases boxB_cases hk with rfl | rfl | ⟨i', hi', rfl⟩
  ·rfl
  ·exact absurd e h1
  ·rw [bmB_r] at e; exact absurd (show b ∈ ts.map (·.1) by rw [show b = _ from e]; exact ht i' hi') h2
  ·omega
  ·rfl
  ·rw [bmB_r] at e; exact absurd (show lb ∈ ts.map (·.1) by rw [show lb = _ from e]; exact ht i' hi') h3
  ·omega
  ·omega
  ·rw [bmB_r, bmB_r] at e
   have e1 : ∀ q, q < n -> (ts.map (·.1)).getD q 0 = (ts.getD q (0, 0, 0)).1 := fun q hq => by
    have hq' : q < ts.length := by rw [h.lt, hn]; exact hq
    rw [getD_lt _ _ (by simpa using hq'), getD_lt _ _ hq']; simp
   have := nodup_getD (d := 0) h4 (i := i) (j := i') (by simp [h.lt, hn, hi]) (by simp [h.lt, hn, hi']) (by rw [e1 i hi, e1 i' hi']; exact e)
   omega
 by_cases hle : j <= k
 ·exact key j k hj hk e hle
 ·exact (key k j hk hj e.symm (by omega)).symm
theorem hdB_ev (ρ : Env) (hρ : ρ.v 12 = s.win /\ ρ.v 13 = s.need) (β : Bm) (kl n : Nat) (e : E) (hk : n ≠ 0 -> β kl = (lb, lc)) : SV.evs ρ β (hdB e kl n) = [.int .i64 s.win, .int .i64 s.need, if n = 0 then .slice none 0 0 else slV lb n lc, .int .i64 (e.ev ρ)] := by
 have e1 : SV.ev ρ β (listV kl n) = if n = 0 then .slice none 0 0 else slV lb n lc := by
  unfold listV; rw [beq_iff]
  by_cases h0 : n = 0
  ·rw [decide_eq_true h0, if_pos h0]; rfl
  ·rw [decide_eq_false h0, if_neg h0]
   show Value.slice (some ⟨(β kl).1, 0, none⟩) n (Option.getD none (β kl).2) = _; rw [hk h0]; rfl
 show [Value.int .i64 (ρ.v 12), .int .i64 (ρ.v 13), SV.ev ρ β (listV kl n), .int .i64 _] = _; rw [e1, hρ.1, hρ.2]
theorem rowB_ev {β : Bm} {i : Nat} (hβ : β (2 + i) = ((ts.getD i (0, 0, 0)).1, (ts.getD i (0, 0, 0)).2.1)) : (rowB i).ev (envB F d t s ts) β = rowV (s.l.getD i []) (ts.getD i (0, 0, 0)) := by
 show Value.slice (some ⟨(β (2 + i)).1, (β (2 + i)).2 + 0, none⟩) ((lenB' i).ev _).toNat ((capB' i).ev _).toNat = _; rw [len_evB, cap_evB, hβ]; rfl
theorem rowB_ok (hs : RsOk s) (h : LayB s.win s.need s.now s.l b lb lc ts w) {i m : Nat} (hi : i < s.l.length) (hm : 2 + i < m) : (rowB i).ok (envB F d t s ts) m := by
 have hr := hs.some _ (getD_mem (d := []) hi); obtain ⟨m1, m2, m3⟩ := h.msgs i _ _ (getD_some (d := []) hi) (getD_some (d := (0, 0, 0)) (by rw [h.lt]; exact hi))
 refine ⟨hm, ?_, ?_, ?_, ?_⟩
 ·rw [len_evB]; exact wfI (by omega)
 ·rw [len_evB]; omega
 ·rw [len_evB, cap_evB]; omega
 ·omega
theorem pack_B (hs : RsOk s) (h : LayB s.win s.need s.now s.l b lb lc ts w) (hn : s.l.length = n) (h0 : s.l = [] -> lb = w.heap.size) :
  Heap (envB F d t s ts) w (fun i => ∃ k, k < 2 + n /\ (boxB n k).rw = true /\ (bmB b lb lc ts k).1 = i) (bmB b lb lc ts) (hpB n) w := by
 have hi' : ∀ i, i < n -> i < s.l.length := fun i hi => by rw [hn]; exact hi
 have hne : n ≠ 0 -> s.l ≠ [] := fun h1 h2 => h1 (by rw [<- hn, h2]; rfl)
 have hst := st_wf hs; refine heap_of (fun k hk => ?_) (fun j k hj hk e => bmB_inj h hn h0 hj hk e) (fun k hk => ?_) (fun k hk ha => ?_) (fun k hk => ?_)
 ·rcases boxB_cases hk with rfl | rfl | ⟨i, hi, rfl⟩
  ·rw [boxB_0]
   show w.heap[b]? = some (.cells (SV.evs _ _ (hdB (.var 14) 1 n)).toArray _ (0, 0)); rw [hdB_ev (lb := lb) (lc := lc) (s := s) _ ⟨rfl, rfl⟩ _ 1 n (.var 14) (fun _ => rfl), h.head]
   have e : (E.var 14).ev (envB F d t s ts) = s.now := rfl; rw [e, <- hn]
   by_cases hz : s.l = []
   ·rw [if_pos hz, if_pos (by rw [hz]; rfl)]
   ·rw [if_neg hz, if_neg (by rw [List.length_eq_zero_iff]; exact hz)]
  ·by_cases hz : n = 0
   ·subst hz; trivial
   ·rw [boxB_1 (by omega)]
    obtain ⟨rest, r1, r2⟩ := h.list (hne hz); refine ⟨rest, ?_, ?_⟩
    ·show w.heap[lb]? = _
     rw [r1]; congr 4; rw [SV.evs_map, List.map_map]; apply List.ext_getElem?; intro i
     by_cases hi : i < n
     ·have e1 : s.l[i]? = some (s.l.getD i []) := getD_some (hi' i hi)
      have e2 : ts[i]? = some (ts.getD i (0, 0, 0)) := getD_some (by rw [h.lt]; exact hi' i hi)
      rw [List.getElem?_zipWith, e1, e2, lMp, lRa hi]; show some (rowV _ _) = some ((rowB i).ev _ _); rw [rowB_ev bmB_r]
     ·rw [lNo (by simp [h.lt]; omega), lNo (by simp; omega)]
    ·show _ = lc * 1
     rw [List.length_map, List.length_range, <- hn]; omega
  ·rw [boxB_r, bmB_r]
   intro j g lk hj hlk; rw [len_evB] at hj; have hj' : j < (s.l.getD i []).length := by omega
   obtain ⟨m1, m2, m3⟩ := h.msgs i _ _ (getD_some (d := []) (hi' i hi)) (getD_some (d := (0, 0, 0)) (by rw [h.lt]; exact hi' i hi))
   have hlk' : (msgK.map Lk.int)[g]? = some lk := hlk; rw [lMp, Option.map_eq_some_iff] at hlk'; obtain ⟨k, hk2, rfl⟩ := hlk'; have hg : g < 12 := (lSo.1 hk2).1; obtain ⟨q1, q2⟩ := rd_evB (F := F) (d := d) (t := t) (ts := ts) hs (hi' i hi) hj' hk2 (e := .lit j) rfl; have q1' : (envB F d t s ts).rd i (Lk.code (.int k) g) j = fldM ((s.l.getD i []).getD j msg0) g := q1
   rw [q1']; refine ⟨?_, q2⟩; have := m3 j _ (getD_some (d := msg0) hj') g hg; rw [msgV_get, hk2] at this; exact this
 ·rcases boxB_cases hk with rfl | rfl | ⟨i, hi, rfl⟩
  ·rw [boxB_0]
   refine ⟨hst.1, hst.2.1, ?_, hst.2.2, trivial⟩; unfold listV; rw [beq_iff]
   by_cases hz : n = 0
   ·rw [decide_eq_true hz]; trivial
   ·rw [decide_eq_false hz]; exact show 1 < 2 + n by omega
  ·by_cases hz : n = 0
   ·subst hz; trivial
   ·rw [boxB_1 (by omega)]
    show SV.oks _ _ ((List.range n).map rowB); rw [SV.oks_mem]; intro x hx; obtain ⟨i, hi, rfl⟩ := List.mem_map.1 hx; have := mRa.1 hi; exact rowB_ok hs h (hi' i this) (by omega)
  ·rw [boxB_r]; trivial
 ·rcases boxB_cases hk with rfl | rfl | ⟨i, hi, rfl⟩
  ·cases ha
  ·by_cases hz : n = 0
   ·subst hz; cases ha
   ·rw [boxB_1 (by omega)] at ha; cases ha
  ·rw [boxB_r, bmB_r]
   exact ⟨rfl, (h.msgs i _ _ (getD_some (d := []) (hi' i hi)) (getD_some (d := (0, 0, 0)) (by rw [h.lt]; exact hi' i hi))).1⟩
 ·rcases boxB_cases hk with rfl | rfl | ⟨i, hi, rfl⟩
  ·rfl
  ·by_cases hz : n = 0
   ·subst hz; rfl
   ·rw [boxB_1 (by omega)]; rfl
  ·rw [boxB_r]; rfl
theorem factsB_ok (hs : RsOk s) (h : LayB s.win s.need s.now s.l b lb lc ts w) (hn : s.l.length = n) (hd : fitsK ks11 d) (ht : (Lit.int .i64 t).wf = true) : SX.FsOk (envB F d t s ts) (factsB n) := by
 have hst := st_wf hs
 have zr : ∀ i, (Lit.int .i64 ((E.var i).ev (envB F d t s ts))).wf = true -> ((rngV i).1.ev (envB F d t s ts) ≠ 0 ↔ (rngV i).2 = true) := fun i hi => by
  have := (wf_iff .i64 _).1 hi; show (if IntKind.i64.min <= (E.var i).ev _ /\ (E.var i).ev _ <= IntKind.i64.max then (1 : Int) else 0) ≠ 0 ↔ _
  rw [if_pos this]; exact ⟨fun _ => rfl, fun _ => by decide⟩
 refine fsOk_app ?_ (fsOk_app (SV.rngsL_ok (n := 0) (dsS_ok (fun i hi => arg_evB i hi) hd)) ?_)
 ·intro p hp
  simp only [mCo, List.not_mem_nil, or_false] at hp; rcases hp with rfl | rfl | rfl | rfl
  ·exact zr 11 ht
  ·exact zr 12 hst.1
  ·exact zr 13 hst.2.1
  ·exact zr 14 hst.2.2
 ·intro p hp
  obtain ⟨i, hi, hp⟩ := List.mem_flatMap.1 hp; have hi' : i < s.l.length := by rw [hn]; exact mRa.1 hi
  have hr := hs.some _ (getD_mem (d := []) hi'); obtain ⟨m1, m2, m3⟩ := h.msgs i _ _ (getD_some (d := []) hi') (getD_some (d := (0, 0, 0)) (by rw [h.lt]; exact hi'))
  simp only [lenFB, mCo, List.not_mem_nil, or_false] at hp; have i1 : IntKind.i64.min = -9223372036854775808 := by decide
  have i2 : IntKind.i64.max = 9223372036854775807 := by decide
  rcases hp with rfl | rfl | rfl
  ·show (if 0 < (lenB' i).ev _ then (1 : Int) else 0) ≠ 0 ↔ _
   rw [len_evB, if_pos (by omega)]; exact ⟨fun _ => rfl, fun _ => by decide⟩
  ·show (if IntKind.i64.min <= (lenB' i).ev _ /\ (lenB' i).ev _ <= IntKind.i64.max then (1 : Int) else 0) ≠ 0 ↔ _
   rw [len_evB, i1, i2, if_pos (by omega)]; exact ⟨fun _ => rfl, fun _ => by decide⟩
  ·show (if (capB' i).ev _ < (lenB' i).ev _ then (1 : Int) else 0) ≠ 0 ↔ _
   rw [len_evB, cap_evB, if_neg (by omega)]; simp
end
inductive RwB where
 | old (i : Nat) | new (k off : Nat) (cap : Option Nat) (kk : Nat) (ms : List (Nat -> E))
def RwB.sv : RwB -> SV
 | .old i => rowB i
 | .new k off cap _ ms => .slice k off ms.length cap
def RwB.box : RwB -> Nat
 | .old i => 2 + i
 | .new _ _ _ kk _ => kk
def RwB.blk (β : Bm) (ts : Tb) : RwB -> Nat × Nat × Nat
 | .old i => ts.getD i (0, 0, 0)
 | .new k off cap _ _ => ((β k).1, off, cap.getD (β k).2)
def msgOf (ρ : Env) (m : Nat -> E) : Msg := ⟨(List.range 11).map fun j => (m j).ev ρ, (m 11).ev ρ⟩
def RwB.view (ρ : Env) (l : List (List Msg)) : RwB -> List Msg
 | .old i => l.getD i []
 | .new _ _ _ _ ms => ms.map (msgOf ρ)
def msgCells (m : Nat -> E) : List SV := dsS m ++ [.int .i64 (m 11)]
def rowCells (ms : List (Nat -> E)) : List SV := ms.flatMap msgCells
def isEmptyL {α : Type} : List α -> Bool
 | [] => true
 | _ => false
def capOkB (cap : Option Nat) (tl m : Nat) : Bool :=
 match cap with
 | none => Nat.beq tl 13
 | some q => Nat.beq tl 0 && Nat.ble m q
def isNoneB (cap : Option Nat) : Bool :=
 match cap with
 | none => true
 | some _ => false
def isRowB (hp : Hp) (fs : Fs) (k off : Nat) (cap : Option Nat) (kk : Nat) (ms : List (Nat -> E)) : Bool :=
 match hp.at k with
 | some ⟨r, .cells c ty tl⟩ => r && Nat.beq kk k && Nat.beq off 0 && Nat.beq ty 146 && capOkB cap tl ms.length && SV.fitL fs (fun i => .var i) id hp.n (rowCells ms) c
 | some ⟨_, .view o l⟩ => match hp.at o with
  | some ⟨r, .cells c ty tl⟩ => r && Nat.beq kk o && Nat.beq tl 13 && isNoneB cap && Nat.ble ((ms.length + l) * 12) c.length && SV.fitL fs (fun i => .var i) id hp.n (rowCells ms) (c.drop off)
  | _ => false
 | _ => false
def RwB.okB (n : Nat) (hp : Hp) (fs : Fs) : RwB -> Bool
 | .old i => Nat.blt i n
 | .new k off cap kk ms => isRowB hp fs k off cap kk ms
def ksOf (kl : Nat) (rs : List RwB) : List Nat := 0 :: ((bif isEmptyL rs then [] else [kl]) ++ rs.map RwB.box)
def picOkB (n : Nat) (now : E) (kl : Nat) (rs : List RwB) (hp : Hp) (fs : Fs) : Bool :=
 isCells hp fs 0 121 0 (hdB now kl rs.length) && (isEmptyL rs || isCells hp fs kl 148 2 (rs.map RwB.sv)) && rs.all (RwB.okB n hp fs) && nodupB (ksOf kl rs)
theorem rowCells_len : ∀ ms : List (Nat -> E), (rowCells ms).length = ms.length * 12
 | [] => rfl
 | m :: ms => by
  have : (msgCells m).length = 12 := rfl; show (msgCells m ++ rowCells ms).length = _; rw [List.length_append, this, rowCells_len ms, List.length_cons]; omega
theorem msgCells_ev (ρ : Env) (β : Bm) (m : Nat -> E) : SV.evs ρ β (msgCells m) = msgV (msgOf ρ m) := by
 unfold msgCells msgV; rw [evs_append, dsS_ev (range11 ρ m)]; rfl
theorem rowCells_get (ρ : Env) (β : Bm) : ∀ (ms : List (Nat -> E)) (j g : Nat) (m : Nat -> E), ms[j]? = some m -> g < 12 -> (SV.evs ρ β (rowCells ms))[j * 12 + g]? = (msgV (msgOf ρ m))[g]?
 | [], j, g, m, h, _ => by cases h
 | x :: ms, 0, g, m, h, hg => by
  obtain rfl : x = m := sinj h; show (SV.evs ρ β (msgCells x ++ rowCells ms))[0 * 12 + g]? = _; have hl : (msgV (msgOf ρ x)).length = 12 := rfl; rw [evs_append, msgCells_ev, lAp (by rw [hl]; omega), show 0 * 12 + g = g by omega]
 | x :: ms, j + 1, g, m, h, hg => by
  show (SV.evs ρ β (msgCells x ++ rowCells ms))[(j + 1) * 12 + g]? = _; have hl : (msgV (msgOf ρ x)).length = 12 := rfl; rw [evs_append, msgCells_ev, List.getElem?_append_right (by rw [hl]; omega), hl, show (j + 1) * 12 + g - 12 = j * 12 + g by omega]
  exact rowCells_get ρ β ms j g m h hg
theorem isRowB_spec {ρ : Env} {w0 w : World} {M : Nat -> Prop} {β : Bm} {hp : Hp} {fs : Fs} (hh : Heap ρ w0 M β hp w) (hf : SX.FsOk ρ fs) {k off kk : Nat} {cap : Option Nat} {ms : List (Nat -> E)} (h : isRowB hp fs k off cap kk ms = true) :
  (∃ x : Box, hp.at kk = some x /\ x.rw = true /\ x.c.live = true) /\ (β k).1 = (β kk).1 /\ ms.length <= cap.getD (β k).2 /\ ∀ (j : Nat) (m : Nat -> E), ms[j]? = some m -> ∀ g, g < 12 -> w.cell? ⟨(β k).1, off + (j * 12 + g), none⟩ = (msgV (msgOf ρ m))[g]? := by
 unfold isRowB at h; split at h
 ·rename_i r c ty tl hk
  simp only [bAnd, beq_iff, dEq] at h; obtain ⟨⟨⟨⟨⟨rfl, rfl⟩, rfl⟩, rfl⟩, h4⟩, h5⟩ := h; obtain ⟨e, _⟩ := SV.fitL_spec (β := β) (m := hp.n) hf _ _ h5; rw [envSub_var] at e; have e : SV.evs ρ β c = SV.evs ρ β (rowCells ms) := e
  have hl : c.length = ms.length * 12 := by
   have := congrArg List.length e; simp only [SV.evs_map, List.length_map] at this; rw [this, rowCells_len]
  have hlies := hh.lies kk _ hk; obtain ⟨rest, h1⟩ := Bx.lies_cells hlies; refine ⟨⟨_, hk, rfl, rfl⟩, rfl, ?_, fun j m hj g hg => ?_⟩
  ·unfold capOkB at h4
   split at h4
   ·rw [beq_iff, dEq] at h4
    subst h4; obtain ⟨rest', _, h2⟩ := hlies; have h2' : c.length + rest'.length = (β kk).2 * 12 := h2; show ms.length <= (β kk).2; omega
   ·rw [bAnd] at h4
    exact Nat.le_of_ble_eq_true h4.2
  ·have hjl : j < ms.length := (lSo.1 hj).1
   rw [e] at h1; have hlen : (SV.evs ρ β (rowCells ms)).length = ms.length * 12 := by rw [SV.evs_map, List.length_map, rowCells_len]
   unfold World.cell?; simp only [h1]; rw [<- rowCells_get ρ β ms j g m hj hg]; have hlt : j * 12 + g < (SV.evs ρ β (rowCells ms)).length := by rw [hlen]; omega
   simp [List.getElem?_append, hlt]
 ·rename_i r o l hk
  split at h
  ·rename_i r' c ty tl ho
   simp only [bAnd, beq_iff, dEq] at h; obtain ⟨⟨⟨⟨⟨rfl, rfl⟩, rfl⟩, h4⟩, h5⟩, h6⟩ := h; obtain ⟨v1, v2⟩ := hh.lies k _ hk; obtain ⟨e, _⟩ := SV.fitL_spec (β := β) (m := hp.n) hf _ _ h6; rw [envSub_var] at e; have e : SV.evs ρ β (c.drop off) = SV.evs ρ β (rowCells ms) := e; obtain ⟨rest, h1, h2⟩ := hh.lies kk _ ho; have h5 := Nat.le_of_ble_eq_true h5; have h2' : c.length + rest.length = (β kk).2 * 12 := h2
   refine ⟨⟨_, ho, rfl, rfl⟩, v1, ?_, fun j m hj g hg => ?_⟩
   ·unfold isNoneB at h4
    split at h4
    ·show ms.length <= (β k).2
     rw [v2]; show ms.length <= (β kk).2 - l; omega
    ·cases h4
   ·have hv := rowCells_get ρ β ms j g m hj hg
    have hsome : (msgV (msgOf ρ m))[g]? = some ((msgV (msgOf ρ m)).getD g undef) := by
     have hl : (msgV (msgOf ρ m)).length = 12 := rfl; exact getD_some (by rw [hl]; exact hg)
    rw [hsome] at hv ⊢; rw [<- e, SV.evs_map, lMp, List.getElem?_drop, <- lMp, <- SV.evs_map] at hv; rw [v1]; have hlt := (lSo.1 hv).1; unfold World.cell?; simp only [h1]; simp only [List.size_toArray, List.getElem?_toArray]; rw [lAp hlt]
    simpa using hv
  ·cases h
 ·cases h
section
variable {F : Mng} {d : List Int} {t : Int} {s : FS} {ts : Tb} {b lb lc n : Nat} {w w' : World} {β' : Bm} {hp : Hp} {fs : Fs} {kl : Nat} {rs : List RwB} {e : E}
theorem maskB (h : LayB s.win s.need s.now s.l b lb lc ts w) (hn : s.l.length = n) {i : Nat} (hi : ∃ k, k < 2 + n /\ (boxB n k).rw = true /\ (bmB b lb lc ts k).1 = i) : i ∈ blksB s.l b lb ts := by
 obtain ⟨k, hk, hr, rfl⟩ := hi; unfold blksB; simp only [mCo, List.mem_append]; rcases boxB_cases hk with rfl | rfl | ⟨i, hi, rfl⟩
 ·exact .inl rfl
 ·by_cases hz : n = 0
  ·subst hz; cases hr
  ·rw [if_neg (fun h2 => hz (by rw [<- hn, h2]; rfl))]
   exact .inr (.inl (List.mem_singleton.2 rfl))
 ·rw [boxB_r] at hr; cases hr
theorem unpack_B (hs : RsOk s) (h : LayB s.win s.need s.now s.l b lb lc ts w) (hn : s.l.length = n) (h0 : s.l = [] -> lb = w.heap.size)
  (hh : Heap (envB F d t s ts) w (fun i => ∃ k, k < 2 + n /\ (boxB n k).rw = true /\ (bmB b lb lc ts k).1 = i) β' hp w') (hx : Ext (2 + n) (bmB b lb lc ts) β') (hst : Stay (hpB n) hp) (hf : SX.FsOk (envB F d t s ts) fs) (hc : picOkB n e kl rs hp fs = true) :
  LayB s.win s.need (e.ev (envB F d t s ts)) (rs.map (RwB.view (envB F d t s ts) s.l)) b (β' kl).1 (β' kl).2 (rs.map (RwB.blk β' ts)) w' /\
   ∀ i ∈ blksB (rs.map (RwB.view (envB F d t s ts) s.l)) b (β' kl).1 (rs.map (RwB.blk β' ts)), i ∈ blksB s.l b lb ts \/ w.heap.size <= i := by
 simp only [picOkB, bAnd, bOr, lAl] at hc; obtain ⟨⟨⟨c1, c2⟩, c3⟩, c4⟩ := hc; have hnd := nodupB_spec c4; have nil : isEmptyL rs = true ↔ rs = [] := by cases rs <;> simp [isEmptyL]
 have hne : rs ≠ [] -> isCells hp fs kl 148 2 (rs.map RwB.sv) = true := fun hr => c2.resolve_left fun h => hr (nil.1 h)
 have b0 : β' 0 = (b, 0) := hx 0 (by omega)
 have hM : ∀ i, (∃ k, k < 2 + n /\ (boxB n k).rw = true /\ (bmB b lb lc ts k).1 = i) -> i ∈ blksB s.l b lb ts := fun i hi => maskB h hn hi
 have hks : ksOf kl rs = 0 :: ((if rs = [] then [] else [kl]) ++ rs.map RwB.box) := by cases rs <;> rfl
 rw [hks] at hnd
 -- boxes: live and own, or rows as they were
 have sort : ∀ k ∈ (0 :: ((if rs = [] then [] else [kl]) ++ rs.map RwB.box)), (∃ x : Box, hp.at k = some x /\ x.rw = true /\ x.c.live = true) \/ ∃ i, i < n /\ k = 2 + i := fun k hk => by
  simp only [mCo, List.mem_append, List.mem_map] at hk; rcases hk with rfl | hk | ⟨p, hp', rfl⟩
  ·obtain ⟨c, hc, _⟩ := isCells_spec hh hf c1
   exact .inl ⟨_, hc, rfl, rfl⟩
  ·split at hk
   ·cases hk
   ·rename_i hr
    obtain rfl := List.mem_singleton.1 hk; obtain ⟨c, hc, _⟩ := isCells_spec hh hf (hne hr); exact .inl ⟨_, hc, rfl, rfl⟩
  ·have := c3 p hp'
   cases p with
   | old i =>
    simp only [RwB.okB, blt_iff, dEq] at this; exact .inr ⟨i, this, rfl⟩
   | new k off cap kk ms => exact .inl (isRowB_spec hh hf this).1
 have arrB : ∀ i, i < n -> hp.at (2 + i) = some ⟨false, .arr i msgLk (lenB' i)⟩ /\ β' (2 + i) = ((ts.getD i (0, 0, 0)).1, (ts.getD i (0, 0, 0)).2.1) := fun i hi => by
  refine ⟨hst _ _ (Hp.at_some.2 ⟨by show 2 + i < 2 + n; omega, boxB_r⟩) rfl, ?_⟩
  rw [hx _ (by omega), bmB_r]
 have binj : ∀ j ∈ (0 :: ((if rs = [] then [] else [kl]) ++ rs.map RwB.box)), ∀ k ∈ (0 :: ((if rs = [] then [] else [kl]) ++ rs.map RwB.box)), (β' j).1 = (β' k).1 -> j = k := fun j hj k hk he => by
  have cross : ∀ j k, (∃ x : Box, hp.at j = some x /\ x.rw = true /\ x.c.live = true) -> (∃ i, i < n /\ k = 2 + i) -> (β' j).1 = (β' k).1 -> False := fun j k ⟨x, hj, hr, hv⟩ ⟨i, hi, hk⟩ he => by
   subst hk; obtain ⟨a1, a2⟩ := hh.arrs _ _ (arrB i hi).1 rfl; rcases hh.mine j _ hj hr hv with h1 | h1
   ·exact a2 (he ▸ h1)
   ·omega
  rcases sort j hj with hj1 | hj1 <;> rcases sort k hk with hk1 | hk1
  ·obtain ⟨x, hj2, _, hv⟩ := hj1
   obtain ⟨y, hk2, _, hv'⟩ := hk1; exact hh.inj j k _ _ hj2 hk2 hv hv' he
  ·exact (cross j k hj1 hk1 he).elim
  ·exact (cross k j hk1 hj1 he.symm).elim
  ·obtain ⟨i, hi, rfl⟩ := hj1
   obtain ⟨i', hi', rfl⟩ := hk1; rw [hx _ (by omega), hx _ (by omega)] at he
   exact bmB_inj h hn h0 (by omega) (by omega) he
 have hblk : ∀ p ∈ rs, (p.blk β' ts).1 = (β' p.box).1 := fun p hp' => by
  have := c3 p hp'; cases p with
  | old i =>
   simp only [RwB.okB, blt_iff, dEq] at this; show (ts.getD i (0, 0, 0)).1 = (β' (2 + i)).1; rw [(arrB i this).2]
  | new k off cap kk ms => exact (isRowB_spec hh hf this).2.1
 have hblks : blksB (rs.map (RwB.view (envB F d t s ts) s.l)) b (β' kl).1 (rs.map (RwB.blk β' ts)) = (0 :: ((if rs = [] then [] else [kl]) ++ rs.map RwB.box)).map fun k => (β' k).1 := by
  have e1 : (rs.map (RwB.blk β' ts)).map (·.1) = (rs.map RwB.box).map fun k => (β' k).1 := by
   rw [List.map_map, List.map_map]; exact List.map_congr_left fun p hp' => hblk p hp'
  unfold blksB; rw [e1]
  by_cases hr : rs = []
  ·rw [hr]; simp [b0]
  ·rw [if_neg (by simpa using hr), if_neg hr]
   simp only [List.map_cons, List.map_append, List.map_nil, b0]
 refine ⟨⟨by simp, ?_, fun hr => ?_, fun i r t' h1 h2 => ?_, ?_⟩, fun i hi => ?_⟩
 ·have := isCells_lies hh hf c1
  rw [b0, hdB_ev (lb := (β' kl).1) (lc := (β' kl).2) (s := s) _ ⟨rfl, rfl⟩ β' kl rs.length e (fun _ => rfl)] at this
  rw [this]
  by_cases hr : rs = []
  ·rw [hr]; rfl
  ·rw [if_neg (by rw [List.length_eq_zero_iff]; exact hr), if_neg (by simpa using hr), List.length_map]
 ·have hr' : rs ≠ [] := by simpa using hr
  obtain ⟨rest, r1, r2⟩ := isCells_tail hh hf (hne hr'); refine ⟨rest, ?_, by simpa using r2⟩
  rw [r1]; congr 4; rw [SV.evs_map, List.map_map]; apply List.ext_getElem?; intro i
  by_cases hi : i < rs.length
  ·rw [List.getElem?_zipWith, lMp, lMp, lMp, lGe hi]
   show some ((rs[i].sv).ev _ _) = some (rowV (rs[i].view _ _) (rs[i].blk _ _)); have := c3 rs[i] (List.getElem_mem hi); cases hp' : rs[i] with
   | old j =>
    rw [hp'] at this; simp only [RwB.okB, blt_iff, dEq] at this; show some ((rowB j).ev _ _) = _; rw [rowB_ev (arrB j this).2]; rfl
   | new k off cap kk ms =>
    show some (Value.slice (some ⟨(β' k).1, off, none⟩) ms.length (cap.getD (β' k).2)) = some (Value.slice (some ⟨(β' k).1, off, none⟩) (ms.map (msgOf _)).length (cap.getD (β' k).2)); rw [List.length_map]
  ·rw [lNo (by simp; omega), lNo (by simp; omega)]
 ·simp only [lMp, Option.map_eq_some_iff] at h1 h2
  obtain ⟨p, hp1, rfl⟩ := h1; obtain ⟨p2, hp2, rfl⟩ := h2; rw [hp1] at hp2; obtain rfl := sinj hp2; have hpm := List.mem_of_getElem? hp1; have := c3 p hpm; cases p with
  | old j =>
   simp only [RwB.okB, blt_iff, dEq] at this; have hj : j < s.l.length := by rw [hn]; exact this
   obtain ⟨m1, m2, m3⟩ := h.msgs j _ _ (getD_some (d := []) hj) (getD_some (d := (0, 0, 0)) (by rw [h.lt]; exact hj))
   obtain ⟨a1, a2⟩ := hh.arrs _ _ (arrB j this).1 rfl; rw [(arrB j this).2] at a1 a2; have hkeep := hh.kept.block _ a1 a2; refine ⟨?_, m2, fun q m hq g hg => ?_⟩
   ·rw [Array.getElem?_eq_getElem m1] at hkeep
    exact blk_lt hkeep
   ·show w'.cell? ⟨(ts.getD j (0, 0, 0)).1, _, none⟩ = _
    rw [cell_congr hkeep]; exact m3 q m hq g hg
  | new k off cap kk ms =>
   obtain ⟨⟨x, x1, x2, x3⟩, r1, r2, r3⟩ := isRowB_spec hh hf this; refine ⟨?_, ?_, fun q m hq g hg => ?_⟩
   ·show (β' k).1 < _
    rw [r1]; exact Bx.lies_lt (hh.lies kk x x1) x3
   ·show (ms.map (msgOf _)).length <= cap.getD (β' k).2
    rw [List.length_map]; exact r2
   ·have hq : (ms.map (msgOf (envB F d t s ts)))[q]? = some m := hq
    rw [lMp, Option.map_eq_some_iff] at hq; obtain ⟨m', hm', rfl⟩ := hq; exact r3 q m' hm' g hg
 ·have := hblks
  unfold blksB at this; rw [this, List.Nodup, List.pairwise_map]; refine List.Pairwise.imp_of_mem ?_ hnd; intro j k hj hk hjk he; exact hjk (binj j hj k hk he)
 ·rw [hblks] at hi
  obtain ⟨k, hk, rfl⟩ := List.mem_map.1 hi; rcases sort k hk with ⟨x, x1, x2, x3⟩ | ⟨i, hin, rfl⟩
  ·rcases hh.mine k _ x1 x2 x3 with h2 | h2
   ·exact .inl (hM _ h2)
   ·exact .inr h2
  ·refine .inl ?_
   rw [(arrB i hin).2]; unfold blksB; simp only [mCo, List.mem_append]; exact .inr (.inr (List.mem_map.2 ⟨_, getD_mem (by rw [h.lt, hn]; exact hin), rfl⟩))
end
inductive WvB where
 | old (i : Nat) | new (ms : List (Nat -> E))
def WvB.view (ρ : Env) (l : List (List Msg)) : WvB -> List Msg
 | .old i => l.getD i []
 | .new ms => ms.map (msgOf ρ)
def rdKlB (hp : Hp) : Nat := match (hp.box 0).c with
 | .cells [_, _, .slice k _ _ _, _] _ _ => k
 | _ => 1
def rdRows (hp : Hp) : List SV := match (hp.box 0).c with
 | .cells [_, _, .slice k _ _ _, _] _ _ => match (hp.box k).c with
  | .cells c _ _ => c
  | _ => []
 | _ => []
def kkOf (hp : Hp) (k : Nat) : Nat :=
 match (hp.box k).c with
 | .view o _ => o
 | _ => k
def WvB.rw (hp : Hp) (x : SV) : WvB -> RwB
 | .old i => .old i
 | .new ms => match x with
  | .slice k off _ cap => .new k off cap (kkOf hp k) ms
  | _ => .new 0 0 none 0 ms
def zipR (hp : Hp) : List SV -> List WvB -> List RwB
 | x :: xs, v :: vs => v.rw hp x :: zipR hp xs vs
 | _, _ => []
theorem zipR_view (ρ : Env) (l : List (List Msg)) (hp : Hp) : ∀ (xs : List SV) (vs : List WvB), xs.length = vs.length -> (zipR hp xs vs).map (RwB.view ρ l) = vs.map (WvB.view ρ l)
 | [], [], _ => rfl
 | [], _ :: _, h => by simp at h
 | _ :: _, [], h => by simp at h
 | x :: xs, v :: vs, h => by
  have ih := zipR_view ρ l hp xs vs (by simpa using h)
  simp only [zipR, List.map_cons, ih]; congr 1; cases v with
  | old i => rfl
  | new ms => cases x <;> rfl
def endB (n : Nat) (e : E) (ws : Out -> List WvB) (v : Out -> SV) (o : Out) : Bool :=
 (SV.fit o.fs (fun i => .var i) id o.hp.n (v o) o.v && (v o).flat && Nat.beq (rdRows o.hp).length (ws o).length && picOkB n e (rdKlB o.hp) (zipR o.hp (rdRows o.hp) (ws o)) o.hp o.fs) || noWay o.fs
def runB (sp : Spc) (g : Nat) (args : List SV) (n : Nat) (p : Fs) : T Out := callG Tryz.prog [] okF sp noKeep 80 30 g args (hpB n) (p ++ factsB n)
section
variable {F : Mng} {d : List Int} {t : Int} {s : FS} {ts : Tb} {b lb lc n : Nat} {w w' : World} {e : E}
theorem chg_B {sp : Spc} {g : Nat} {args : List SV} {p : Fs} {ws : Out -> List WvB} {v : Out -> SV} (hs : RsOk s) (h : LayB s.win s.need s.now s.l b lb lc ts w) (hn : s.l.length = n) (h0 : s.l = [] -> lb = w.heap.size) (hd : fitsK ks11 d) (ht : (Lit.int .i64 t).wf = true)
  (hsp : SpecOk Tryz.prog (envB F d t s ts) w (fun i => ∃ k, k < 2 + n /\ (boxB n k).rw = true /\ (bmB b lb lc ts k).1 = i) [] sp) (hp : SX.FsOk (envB F d t s ts) p) (hargs : SV.oks (envB F d t s ts) (2 + n) args) (hr : (runB sp g args n p).all (endB n e ws v) = true) :
  Calls Tryz.prog g (SV.evs (envB F d t s ts) (bmB b lb lc ts) args).toArray w fun x w' => ∃ o, SX.FsOk (envB F d t s ts) o.fs /\ x = .returned ((v o).ev (envB F d t s ts) β0) /\
   (∃ lb' lc' ts', LayB s.win s.need (e.ev (envB F d t s ts)) ((ws o).map (WvB.view (envB F d t s ts) s.l)) b lb' lc' ts' w' /\ ∀ i ∈ blksB ((ws o).map (WvB.view (envB F d t s ts) s.l)) b lb' ts', i ∈ blksB s.l b lb ts \/ w.heap.size <= i) /\
   Kept w (fun i => i ∈ blksB s.l b lb ts) w' := by
 refine ((callG_run (gl := []) (keep := noKeep) (fuel := 80) mixed okF_ok hsp 30 g args (hpB n) (p ++ factsB n) _ w (fun x w' => ∃ o, SX.FsOk (envB F d t s ts) o.fs /\ x = (v o).ev (envB F d t s ts) β0 /\
   (∃ lb' lc' ts', LayB s.win s.need (e.ev (envB F d t s ts)) ((ws o).map (WvB.view (envB F d t s ts) s.l)) b lb' lc' ts' w' /\ ∀ i ∈ blksB ((ws o).map (WvB.view (envB F d t s ts) s.l)) b lb' ts', i ∈ blksB s.l b lb ts \/ w.heap.size <= i) /\
   Kept w (fun i => i ∈ blksB s.l b lb ts) w') (pack_B hs h hn h0) (fsOk_app hp (factsB_ok hs h hn hd ht)) hargs (fun _ h => by cases h)
  (T.holds_mono (fun o ho β' w' hx hl hst hh hf _ => ?_) (T.all_holds hr))).2).mono fun x w' ⟨y, he, o, h1, h2, h3⟩ => ⟨o, h1, by rw [he, h2], h3⟩
 unfold endB at ho; rw [bOr] at ho; rcases ho with ho | ho
 rotate_left
 ·exact (noWay_spec hf ho).elim
 simp only [bAnd, beq_iff, dEq] at ho; obtain ⟨⟨⟨o1, o2⟩, o3⟩, o4⟩ := ho; obtain ⟨e1, _⟩ := SV.fit_spec (β := β') (m := o.hp.n) hf _ _ o1; obtain ⟨u1, u2⟩ := unpack_B hs h hn h0 hh hx hst hf o4; rw [zipR_view _ _ _ _ _ o3] at u1 u2; refine ⟨o, hf, ?_, ⟨_, _, _, u1, u2⟩, ⟨hh.kept.os, hh.kept.tape, hh.kept.output, hh.kept.size, fun i hi hn' => hh.kept.block i hi fun hM => hn' (maskB h hn hM)⟩⟩
 rw [e1, SV.ev_flat β0 (fun k => β' (id k)) (v o) o2]
 rfl
end
def lastB (i f : Nat) : E := .rd i (Lk.code (msgLk.getD f .bool) f) (.bin .sub .i64 (lenB' i) (.lit 1))
def ofRecB (i j : Nat) : E := bif Nat.beq j 7 then lastB i 7 else bif Nat.beq j 8 then lastB i 8 else .var j
def eqOrgB (g : Nat -> E) (i : Nat) : E := .bin .band .i64 (.bin .eq .u64 (lastB i 7) (g 7)) (.bin .eq .i64 (lastB i 8) (g 8))
def notFB (g : Nat -> E) (n : Nat) : Fs := (List.range n).map fun i => (eqOrgB g i, false)
def oldM (i q f : Nat) : E := .rd i (Lk.code (msgLk.getD f .bool) f) (.lit (Int.ofNat q))
def dropM (k : Nat) (l : List (Nat -> E)) : List (Nat -> E) := bif Nat.blt 8 k then l.tail else l
def foundWB (i k j : Nat) : WvB := bif Nat.beq j i then .new (dropM (k + 1) ((List.range k).map (oldM i) ++ [ofRecB i])) else .old j
def foundBB (n i k : Nat) : Bool := (runB noSpec 64 (argsH (ofRecB i)) n (goodF (ofRecB i) ++ (notFB (ofRecB i) i ++ [(eq0 (lenB' i) (.lit (Int.ofNat k)), true)]))).all (endB n (.var 11) (fun _ => (List.range n).map (foundWB i k)) (fun _ => .int .i64 (.lit 0)))
def freshBB (n : Nat) : Bool := (runB noSpec 64 (argsH .var) n (goodF .var ++ notFB .var n)).all (endB n (.var 11) (fun _ => (List.range n).map .old ++ [.new [.var]]) (fun _ => .int .i64 (.lit 0)))
def chainL : Nat -> Nat -> List Bool -> Fs
 | _, _, [] => []
 | i, k, b :: bs => (lt0 (lastB i 11) (lastB k 11), b) :: chainL (i + 1) (bif b then i else k) bs
def endL : Nat -> Nat -> List Bool -> Nat
 | _, k, [] => k
 | i, k, b :: bs => endL (i + 1) (bif b then i else k) bs
def hdBox (lv : Value) : Nat -> Box := fun _ => ⟨false, .cells [.int .i64 (.var 12), .int .i64 (.var 13), .raw lv, .int .i64 (.var 14)] 121 0⟩
def errBB (j : Nat) (c : Int) (lv : Value) : Bool := (callG Tryz.prog [] okF noSpec noKeep 80 30 64 (argsH .var) ⟨1, hdBox lv⟩ (errF j)).all (isLitV c)
def dropHp : List Box := ⟨true, .cells (hdB (.var 11) 1 5) 121 0⟩ :: boxB 5 1 :: ((List.range 5).map fun i => boxB 5 (2 + i)) ++ [⟨true, .cells (dsS .var) 46 0⟩] ++ (List.range 5).flatMap fun i => [⟨true, .cells (msgCells (lastB i)) 146 0⟩, ⟨true, .cells (dsS (lastB i)) 46 0⟩]
def dropOut (j : Nat) : List Box := ⟨true, .cells (hdB (.var 11) 18 4) 121 0⟩ :: ⟨false, .gone⟩ :: ((List.range 5).map fun i => boxB 5 (2 + i)) ++ [⟨true, .cells (dsS .var) 46 0⟩] ++ ((List.range 10).map fun _ => ⟨false, .gone⟩) ++ [⟨true, .cells (((List.range 5).eraseIdx j).map rowB) 148 2⟩]
def dropC (bs : List Bool) : Memo := ⟨94, [.ptr 0 0], dropHp, (List.range 5).flatMap lenFB ++ chainL 1 0 bs, .tuple [], dropOut (endL 1 0 bs)⟩
def dropBB (bs : List Bool) : Bool := (runB (spMemo (dropC bs)) 64 (argsH .var) 5 (goodF .var ++ (notFB .var 5 ++ chainL 1 0 bs))).all (endB 5 (.var 11) (fun _ => ((List.range 5).eraseIdx (endL 1 0 bs)).map .old ++ [.new [.var]]) (fun _ => .int .i64 (.lit 0)))
def dropOk (bs : List Bool) : Bool := (dropC bs).ok Tryz.prog [] okF noSpec noKeep 80 30 && dropBB bs
end
end Go.Proofs.YtfcpmapfhgibpaaGreatDoor
