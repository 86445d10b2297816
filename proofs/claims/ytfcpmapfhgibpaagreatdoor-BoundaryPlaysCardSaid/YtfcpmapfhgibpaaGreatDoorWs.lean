/- The decision and Master, at a call. -/
import Derived.Test.YtfcpmapfhgibpaaGreatDoorWq
import Derived.Test.YtfcpmapfhgibpaaGreatDoorWr1
import Derived.Test.YtfcpmapfhgibpaaGreatDoorWo
import Derived.Test.YtfcpmapfhgibpaaGreatDoorWp
set_option linter.unusedVariables false
set_option linter.unusedSimpArgs false
set_option maxRecDepth 1000000
namespace Go.Proofs.YtfcpmapfhgibpaaGreatDoor
noncomputable section
namespace Dcd
open Go Go.RowKit SX
open DsLaw (lt)
theorem upTo_spec {m : Nat} {p : Nat -> Bool} (h : upTo m p = true) {i : Nat} (hi : i <= m) : p i = true := lAl.1 h i (mRa.2 (by omega))
theorem decA_all {m : Nat} (h1 : 1 <= m) (h8 : m <= 8) : decEnterA m = true /\ ∀ g, upTo m (fun i => decRoundA m i g) = true := by
 match m, h1, h8 with
 | 1, _, _ => exact ⟨decA_enter1, decA_rounds1⟩
 | 2, _, _ => exact ⟨decA_enter2, decA_rounds2⟩
 | 3, _, _ => exact ⟨decA_enter3, decA_rounds3⟩
 | 4, _, _ => exact ⟨decA_enter4, decA_rounds4⟩
 | 5, _, _ => exact ⟨decA_enter5, decA_rounds5⟩
 | 6, _, _ => exact ⟨decA_enter6, decA_rounds6⟩
 | 7, _, _ => exact ⟨decA_enter7, decA_rounds7⟩
 | 8, _, _ => exact ⟨decA_enter8, decA_rounds8⟩
theorem decB_all {m : Nat} (h1 : 1 <= m) (h8 : m <= 8) : decEnterB m = true /\ ∀ g, upTo m (fun i => decRoundB m i g) = true := by
 match m, h1, h8 with
 | 1, _, _ => exact ⟨decB_enter1, decB_rounds1⟩
 | 2, _, _ => exact ⟨decB_enter2, decB_rounds2⟩
 | 3, _, _ => exact ⟨decB_enter3, decB_rounds3⟩
 | 4, _, _ => exact ⟨decB_enter4, decB_rounds4⟩
 | 5, _, _ => exact ⟨decB_enter5, decB_rounds5⟩
 | 6, _, _ => exact ⟨decB_enter6, decB_rounds6⟩
 | 7, _, _ => exact ⟨decB_enter7, decB_rounds7⟩
 | 8, _, _ => exact ⟨decB_enter8, decB_rounds8⟩
theorem decA_body : Tryz.f49.body = some decCodeA := by kernel_rfl
theorem decB_body : Tryz.f67.body = some decCodeB := by kernel_rfl
theorem range_upto (K : Nat) (f : Nat -> E) (hf : ∀ j, (f j).upto K = true) : ∀ l : List Nat, SV.uptos K (l.map fun j => .int .i64 (f j)) = true
 | [] => rfl
 | j :: l => by simp only [List.map_cons, SV.uptos, SV.upto, hf, range_upto K f hf l, Bool.and_self]
section
variable {b off len cap : Nat} {A : Nat -> Nat -> Int -> Int} {w : World} {ns : List Int}
theorem own_ns (hlen : ns.length = 11) (l : List Int) (F : Mng) : ownOf (envA F (ns ++ l) A) = dsOf ns := by
 match ns, hlen with
 | [_, _, _, _, _, _, _, _, _, _, _], _ => rfl
theorem dec_env (hlen : ns.length = 11) {ρ' : Env} (hρ : SameK (phSize decSh + 2) (envA (namesD (dsOf ns) A len) (ns ++ [(len : Int), (cap : Int)]) A) ρ') :
  ρ'.fn = namesD (ownOf ρ') A len /\ ρ'.arr = A /\ ρ'.v 11 = len /\ ownOf ρ' = dsOf ns := by
 have h : ∀ i, i < 13 -> ρ'.v i = (ns ++ [(len : Int), (cap : Int)]).getD i 0 := hρ.2.2
 have ho : ownOf ρ' = dsOf ns := by
  rw [<- own_ns hlen [(len : Int), (cap : Int)] (namesD (dsOf ns) A len) (A := A)]; unfold ownOf; simp only [h _ (show 0 < 13 by decide), h _ (show 1 < 13 by decide), h _ (show 2 < 13 by decide), h _ (show 3 < 13 by decide), h _ (show 4 < 13 by decide), h _ (show 5 < 13 by decide), h _ (show 6 < 13 by decide), h _ (show 7 < 13 by decide), h _ (show 8 < 13 by decide), h _ (show 9 < 13 by decide), h _ (show 10 < 13 by decide), envA]
 refine ⟨by rw [ho]; exact hρ.1, hρ.2.1, ?_, ho⟩
 rw [h 11 (by decide), <- hlen]
 simp
theorem decA_calls (ht : TabsIn tabsT w) (h : ArrIn w portLk b off len cap A) (h8 : len <= 8) (hns : phFits decSh ns) (hlen : ns.length = 11) :
  Calls Tryz.prog 49 #[dsV (dsOf ns), .slice (some ⟨b, off, none⟩) len cap] w fun e w' => ∃ β' : Bm, e = .returned (.tuple #[.slice (some ⟨(β' 4).1, 0, none⟩) len len, .int .i64 0]) /\
   (Bx.cells (codesS len) 3 0).lies (envA (namesD (dsOf ns) A len) (ns ++ [(len : Int), (cap : Int)]) A) β' (β' 4) w' /\ w.heap.size <= (β' 4).1 /\ Below w.heap.size w w' := by
 obtain ⟨t1, t2⟩ := decA_all h.pos h8; have hup : SV.uptos (phSize decSh + 2) (codesS len) = true := range_upto _ _ (fun _ => rfl) _
 have hv : (ns ++ [(len : Int), (cap : Int)]).getD 11 0 = len := by rw [<- hlen]; simp
 have hr := fn_arr_new (hs := decSh) (ns := ns) (p := lenIs len) (rk := 2) (rs0 := []) (cuts := [decCA len]) (want := decWA len) (k := 4) (ty := 3) (tl := 0) (cs := codesS len) (call := callC) (keep := noKeep 49) (fuel := 80) tabsT tabsT_nd ht mixed (namesD (dsOf ns) A len) Tryz.func49 decA_body rfl h hns hlen
  (by rw [lenIs, fsOk_cons, fsOk_nil, eq0_ev, litN_ev]; exact ⟨⟨fun _ => rfl, fun _ => hv⟩, trivial⟩) rfl hup
  (fun ρ' hρ => callC_ok (n := len) (own := ownOf ρ') (by obtain ⟨q1, q2, _⟩ := dec_env hlen hρ; rw [q1, q2]) ht)
  (fun ρ' hρ c hc t htm r hr => by
   obtain rfl : c = decCA len := by simpa using hc
   obtain ⟨i, hi, rfl⟩ := List.mem_map.1 (show t ∈ (List.range (len + 1)).map (decTA len) from htm); obtain ⟨q1, q2, q3, _⟩ := dec_env hlen hρ; exact decRules_ok q1 q2 q3 i r hr)
  (fun c hc t htm => by
   obtain rfl : c = decCA len := by simpa using hc
   obtain ⟨i, hi, rfl⟩ := List.mem_map.1 (show t ∈ (List.range (len + 1)).map (decTA len) from htm); exact ⟨.leaf, fun g => CT.mk0 (upTo_spec (t2 g) (by have := mRa.1 hi; omega))⟩)
  (fun r hr => by cases hr) t1
 exact hr
theorem decB_calls (ht : TabsIn tabsT w) (h : ArrIn w portLk b off len cap A) (h8 : len <= 8) (hns : phFits decSh ns) (hlen : ns.length = 11) :
  Calls Tryz.prog 67 #[dsV (dsOf ns), .slice (some ⟨b, off, none⟩) len cap] w fun e w' => ∃ β' : Bm, e = .returned (.tuple #[.slice (some ⟨(β' 3).1, 0, none⟩) len (β' 3).2, .int .i64 0]) /\
   (Bx.cells (codesS len) 3 2).lies (envA (namesD (dsOf ns) A len) (ns ++ [(len : Int), (cap : Int)]) A) β' (β' 3) w' /\ w.heap.size <= (β' 3).1 /\ Below w.heap.size w w' := by
 obtain ⟨t1, t2⟩ := decB_all h.pos h8; have hup : SV.uptos (phSize decSh + 2) (codesS len) = true := range_upto _ _ (fun _ => rfl) _
 have hv : (ns ++ [(len : Int), (cap : Int)]).getD 11 0 = len := by rw [<- hlen]; simp
 have hr := fn_arr_new (hs := decSh) (ns := ns) (p := lenIs len) (rk := 2) (rs0 := []) (cuts := [decCB len]) (want := decWB len) (k := 3) (ty := 3) (tl := 2) (cs := codesS len) (call := callC) (keep := noKeep 67) (fuel := 80) tabsT tabsT_nd ht mixed (namesD (dsOf ns) A len) Tryz.func67 decB_body rfl h hns hlen
  (by rw [lenIs, fsOk_cons, fsOk_nil, eq0_ev, litN_ev]; exact ⟨⟨fun _ => rfl, fun _ => hv⟩, trivial⟩) rfl hup
  (fun ρ' hρ => callC_ok (n := len) (own := ownOf ρ') (by obtain ⟨q1, q2, _⟩ := dec_env hlen hρ; rw [q1, q2]) ht)
  (fun ρ' hρ c hc t htm r hr => by
   obtain rfl : c = decCB len := by simpa using hc
   obtain ⟨i, hi, rfl⟩ := List.mem_map.1 (show t ∈ (List.range (len + 1)).map (decTB len) from htm); obtain ⟨q1, q2, q3, _⟩ := dec_env hlen hρ; exact decRules_ok q1 q2 q3 i r hr)
  (fun c hc t htm => by
   obtain rfl : c = decCB len := by simpa using hc
   obtain ⟨i, hi, rfl⟩ := List.mem_map.1 (show t ∈ (List.range (len + 1)).map (decTB len) from htm); exact ⟨.leaf, fun g => CT.mk0 (upTo_spec (t2 g) (by have := mRa.1 hi; omega))⟩)
  (fun r hr => by cases hr) t1
 exact hr
end
section
variable {ρ : Env} {w0 : World} {gl : Gl}
end
end Dcd
section
open Go Go.RowKit SX Frm Frn
def cdI (j : Nat) (ns : List Int) : Int := codeX (ns.take 6) (ns.getD 6 0) (ns.drop 7) j
def msI (j : Nat) (ns : List Int) : Int := (mastX (ns.take 6) (ns.getD 6 0) (ns.drop 7)).getD j 0
def nm71 : Mng := fun f => if f = 71 then cdI else nm74 f
theorem but71 : But 71 nm71 nm74 := fun f hf => if_neg hf
def nm72 : Mng := fun f => if f = 72 then msI else nm71 f
theorem but72 : But 72 nm72 nm71 := fun f hf => if_neg hf
def cdL (q : List E) (t : E) (xs : List E) : List E := q ++ t :: xs
def cdE (j : Nat) (l : List E) : E := .app 71 j l
def msE (j : Nat) (l : List E) : E := .app 72 j l
def prtC (x t : E) : List SV := .bool (bokE x t) :: dsS (bstE x t)
def ownEs (q : List E) : List E := [q.getD 1 (.lit 0), q.getD 2 (.lit 0), q.getD 3 (.lit 0), q.getD 4 (.lit 0), q.getD 5 (.lit 0), q.getD 0 (.lit 0), .lit 0, q.getD 0 (.lit 0), .lit 0, q.getD 0 (.lit 0), .lit 0]
def ownQ (es : List E) : Option (List E) :=
 let q := [es.getD 5 (.lit 0), es.getD 0 (.lit 0), es.getD 1 (.lit 0), es.getD 2 (.lit 0), es.getD 3 (.lit 0), es.getD 4 (.lit 0)]
 if E.beqs es (ownEs q) then some q else none
def prtX (fs : Fs) (l : List SV) : Option (E × E) :=
 match l with
 | .bool (.app 49 0 [x, t]) :: _ => if SV.beqs l (prtC x t) then some (x, t) else none
 | _ => none
def prtXs (t : E) : Nat -> List SV -> Option (List E)
 | 0, [] => some []
 | n + 1, l => match l with
  | .bool (.app 49 0 [x, t']) :: _ => if SV.beqs (l.take 12) (prtC x t) then (prtXs t n (l.drop 12)).map (x :: ·) else none
  | _ => none
 | _, _ => none
def prtT (l : List SV) : E := match l with
 | .bool (.app 49 0 [_, t]) :: _ => t
 | _ => .lit 0
def prtsOf (hp : Hp) (b n : Nat) : Option (E × List E) :=
 match hp.at b with
 | some ⟨_, .cells c ty 13⟩ => if ty = 103 then (prtXs (prtT c) n c).map fun xs => (prtT c, xs) else none
 | _ => none
theorem prtXs_spec (t : E) : ∀ (n : Nat) (l : List SV) {xs : List E}, prtXs t n l = some xs -> l = xs.flatMap (fun x => prtC x t) /\ xs.length = n
 | 0, [], xs, h => by cases h; exact ⟨rfl, rfl⟩
 | 0, _ :: _, xs, h => by cases h
 | n + 1, l, xs, h => by
  unfold prtXs at h; split at h
  ·rename_i x t' l'
   split at h
   ·rename_i hb
    obtain ⟨ys, hy, rfl⟩ := Option.map_eq_some_iff.1 h; obtain ⟨h1, h2⟩ := prtXs_spec t n _ hy; refine ⟨?_, by simp [h2]⟩
    have h3 := SV.beqs_eq _ _ hb; rw [List.flatMap_cons, <- h1, <- h3, List.take_append_drop]
   ·cases h
  ·cases h
def spDecX : Spc := fun f args hp fs => match args with
 | [.agg os, .slice b 0 n none] => if f = 49 then (match takeK ks11 os with
  | some es => match ownQ (canons fs es), prtsOf hp b n with
   | some q, some (t, xs) => if Nat.ble 1 n && Nat.ble n 8 then
     some ⟨.tuple [.slice hp.n 0 n (some n), .int .i64 (.lit 0)], hp.push ⟨true, .cells ((List.range n).map fun i => .int .i64 (cdE i (cdL q t xs))) 3 0⟩, fs⟩
    else none
   | _, _ => none
  | none => none) else none
 | _ => none
theorem getD_app_right {l m : List Int} {d : Int} {k : Nat} (h : l.length <= k) : (l ++ m).getD k d = m.getD (k - l.length) d := by
 rw [gDe, List.getElem?_append_right h, <- gDe]
section
variable {ρ : Env}
theorem ownEs_ev (q : List E) : E.evs ρ (ownEs q) = ownL (E.evs ρ q) := by
 have h : ∀ j, (E.evs ρ q).getD j 0 = (q.getD j (.lit 0)).ev ρ := evs_getD q; unfold ownL ownEs; simp only [E.evs, h]; rfl
theorem ownQ_spec {es q : List E} (h : ownQ es = some q) : es = ownEs q /\ q.length = 6 := by
 unfold ownQ at h; simp only at h; split at h
 ·rename_i hb
  cases h; exact ⟨E.beqs_eq _ _ hb, rfl⟩
 ·cases h
theorem cdL_parts {q : List E} (hq : q.length = 6) (t : E) (xs : List E) : (E.evs ρ (cdL q t xs)).take 6 = E.evs ρ q /\ (E.evs ρ (cdL q t xs)).getD 6 0 = t.ev ρ /\ (E.evs ρ (cdL q t xs)).drop 7 = E.evs ρ xs := by
 have hl : (E.evs ρ q).length = 6 := by rw [evs_len, hq]
 unfold cdL; rw [evs_app]; refine ⟨?_, ?_, ?_⟩
 ·rw [List.take_append_of_le_length (by omega), List.take_of_length_le (by omega)]
 ·rw [getD_app_right (by omega), hl]; rfl
 ·rw [List.drop_append, hl, List.drop_of_length_le (by omega)]; rfl
theorem cdE_ev (h71 : ρ.fn 71 = cdI) (j : Nat) {q : List E} (hq : q.length = 6) (t : E) (xs : List E) : (cdE j (cdL q t xs)).ev ρ = codeX (E.evs ρ q) (t.ev ρ) (E.evs ρ xs) j := by
 obtain ⟨h1, h2, h3⟩ := cdL_parts (ρ := ρ) hq t xs; show ρ.fn 71 j _ = _; rw [h71]; unfold cdI; rw [h1, h2, h3]
theorem msE_ev (h72 : ρ.fn 72 = msI) (j : Nat) {q : List E} (hq : q.length = 6) (t : E) (xs : List E) : (msE j (cdL q t xs)).ev ρ = (mastX (E.evs ρ q) (t.ev ρ) (E.evs ρ xs)).getD j 0 := by
 obtain ⟨h1, h2, h3⟩ := cdL_parts (ρ := ρ) hq t xs; show ρ.fn 72 j _ = _; rw [h72]; unfold msI; rw [h1, h2, h3]
theorem flat_get {α β : Type} {f : α -> List β} {z : Nat} (hz : ∀ x, (f x).length = z) : ∀ (l : List α) (i k : Nat), k < z -> (l.flatMap f)[i * z + k]? = l[i]?.bind fun x => (f x)[k]?
 | [], i, k, _ => by simp
 | x :: l, 0, k, hk => by
  rw [List.flatMap_cons, lAp (by rw [hz]; omega)]
  simp
 | x :: l, i + 1, k, hk => by
  rw [List.flatMap_cons, List.getElem?_append_right (by rw [hz, Nat.add_mul]; omega), hz, show (i + 1) * z + k - z = i * z + k by rw [Nat.add_mul]; omega, flat_get hz l i k hk]
  simp
theorem prtC_len (x t : E) : (prtC x t).length = 12 := rfl
def prtN (x t : E) : List E := bokE x t :: (List.range 11).map (bstE x t)
theorem prtC_takes (x t : E) : takes Dcd.portLk (prtC x t) = some (prtN x t) := rfl
theorem vals_get : ∀ (ls : List Lk) (ns : List Int) (f : Nat), (vals ls ns)[f]? = (ls[f]?).map fun l => l.val (ns.getD f 0)
 | [], ns, f => by simp [vals]
 | l :: ls, ns, 0 => by cases ns <;> rfl
 | l :: ls, ns, f + 1 => by
  show (vals ls ns.tail)[f]? = _; rw [vals_get ls ns.tail f, getD_tail]; rfl
theorem code_div (l : Lk) (f : Nat) : l.code f / 8 = f := by
 cases l with
 | int k => cases k <;> simp only [Lk.code, kTag] <;> omega
 | bool => simp only [Lk.code]; omega
def arrX (ρ : Env) (xs : List E) (t : E) : Nat -> Nat -> Int -> Int := fun _ c i => (E.evs ρ (prtN (xs.getD i.toNat (.lit 0)) t)).getD (c / 8) 0
theorem bok01 (hf : Low ρ.fn) (x t : E) : (bokE x t).ev ρ = 0 \/ (bokE x t).ev ρ = 1 := by
 show ρ.fn 49 0 _ = 0 \/ ρ.fn 49 0 _ = 1; rw [hf 49 (by decide)]
 show (if _ then (0 : Int) else 1) = 0 \/ (if _ then (0 : Int) else 1) = 1
 split <;> simp
theorem prt_cell (hf : Low ρ.fn) {x t : E} {n : Nat} (hok : SV.oks ρ n (prtC x t)) (β : Bm) {f : Nat} {l : Lk} (hl : Dcd.portLk[f]? = some l) :
  (SV.evs ρ β (prtC x t))[f]? = some (l.val ((kOf (l.code f)).wrap ((E.evs ρ (prtN x t)).getD f 0))) /\ l.fits ((kOf (l.code f)).wrap ((E.evs ρ (prtN x t)).getD f 0)) /\ (kOf (l.code f)).wrap ((E.evs ρ (prtN x t)).getD f 0) = (E.evs ρ (prtN x t)).getD f 0 := by
 obtain ⟨h1, h2, _⟩ := takes_spec (β := β) (ns := []) hok (prtC_takes x t); rw [List.append_nil] at h1 h2; have h3 := (fits_getD _ _).1 h2 f l hl
 have hw : (kOf (l.code f)).wrap ((E.evs ρ (prtN x t)).getD f 0) = (E.evs ρ (prtN x t)).getD f 0 := by
  cases l with
  | int k =>
   rw [show Lk.code (.int k) f = 8 * f + kTag k from rfl, kOf_code]; exact wrap_fit ((wf_iff k _).1 h3)
  | bool =>
   have hf0 : f = 0 := by
    match f, hl with
    | 0, _ => rfl
    | 1, h => cases h
    | 2, h => cases h
    | 3, h => cases h
    | 4, h => cases h
    | 5, h => cases h
    | 6, h => cases h
    | 7, h => cases h
    | 8, h => cases h
    | 9, h => cases h
    | 10, h => cases h
    | 11, h => cases h
    | f + 12, h => cases h
   subst hf0; have hb : (E.evs ρ (prtN x t)).getD 0 0 = (bokE x t).ev ρ := rfl; rw [hb]; rcases bok01 hf x t with e | e <;> rw [e] <;> decide
 rw [hw]; refine ⟨?_, h3, rfl⟩; rw [h1, vals_get, hl]; rfl
end
section
variable {ρ : Env} {xs : List E} {t : E} {n : Nat}
theorem getD_mem' {l : List E} {i : Nat} (h : i < l.length) : l[i]? = some (l.getD i (.lit 0)) := by
 rw [gDe, lGe h]; rfl
theorem arrX_at (i c : Nat) : arrX ρ xs t 0 c (i : Int) = (E.evs ρ (prtN (xs.getD i (.lit 0)) t)).getD (c / 8) 0 := by
 unfold arrX; rw [Int.toNat_natCast]
theorem rdX_at (hf : Low ρ.fn) {i : Nat} (hok : SV.oks ρ n (prtC (xs.getD i (.lit 0)) t)) {f : Nat} {l : Lk} (hl : Dcd.portLk[f]? = some l) {c : Nat} (hc : l.code f = c) :
  Dcd.rdA (arrX ρ xs t) c (i : Int) = (E.evs ρ (prtN (xs.getD i (.lit 0)) t)).getD f 0 := by
 subst hc; unfold Dcd.rdA; rw [arrX_at, code_div]; exact (prt_cell hf hok β0 hl).2.2
theorem prtN_has (x : E) : (E.evs ρ (prtN x t)).getD 0 0 = (bokE x t).ev ρ := rfl
theorem prtN_set (hf : Low ρ.fn) (x : E) {j : Nat} (hj : j < 11) : (E.evs ρ (prtN x t)).getD (j + 1) 0 = (bestD (qual (dec (x.ev ρ)) (t.ev ρ))).getD j 0 := by
 rw [evs_getD, prtN, List.getD_cons_succ, gDe, lMp, lRa hj]; exact bstE_ev hf x t j
theorem dsOf_getD (l : List Int) : dsOf l = ⟨l.getD 0 0, l.getD 1 0, l.getD 2 0, l.getD 3 0, l.getD 4 0, l.getD 5 0, l.getD 6 0, l.getD 7 0, l.getD 8 0, l.getD 9 0, l.getD 10 0⟩ := by
 unfold dsOf; simp only [headD_getD, getD_tail, Nat.reduceAdd]
theorem hasX_at (hf : Low ρ.fn) {i : Nat} (hok : SV.oks ρ n (prtC (xs.getD i (.lit 0)) t)) : Dcd.hasA (arrX ρ xs t) i = hasX (E.evs ρ xs) (t.ev ρ) i := by
 unfold Dcd.hasA hasX; rw [rdX_at hf hok (f := 0) (l := .bool) (c := 3) rfl rfl, prtN_has, evs_getD]; exact decide_eq_decide.2 (bokE_ev hf _ t)
theorem setX_at (hf : Low ρ.fn) {i : Nat} (hok : SV.oks ρ n (prtC (xs.getD i (.lit 0)) t)) : Dcd.setA (arrX ρ xs t) i = setX (E.evs ρ xs) (t.ev ρ) i := by
 unfold Dcd.setA setX bstX; rw [dsOf_getD, evs_getD]
 rw [rdX_at hf hok (f := 1) (l := .int .i64) (c := 11) rfl rfl, rdX_at hf hok (f := 2) (l := .int .i64) (c := 19) rfl rfl, rdX_at hf hok (f := 3) (l := .int .i64) (c := 27) rfl rfl, rdX_at hf hok (f := 4) (l := .int .i64) (c := 35) rfl rfl, rdX_at hf hok (f := 5) (l := .int .i64) (c := 43) rfl rfl,
  rdX_at hf hok (f := 6) (l := .int .u64) (c := 55) rfl rfl, rdX_at hf hok (f := 7) (l := .int .i64) (c := 59) rfl rfl, rdX_at hf hok (f := 8) (l := .int .u64) (c := 71) rfl rfl, rdX_at hf hok (f := 9) (l := .int .i64) (c := 75) rfl rfl, rdX_at hf hok (f := 10) (l := .int .u64) (c := 87) rfl rfl, rdX_at hf hok (f := 11) (l := .int .i64) (c := 91) rfl rfl]
 simp only [prtN_set hf _ (show 0 < 11 by decide), prtN_set hf _ (show 1 < 11 by decide), prtN_set hf _ (show 2 < 11 by decide), prtN_set hf _ (show 3 < 11 by decide), prtN_set hf _ (show 4 < 11 by decide), prtN_set hf _ (show 5 < 11 by decide), prtN_set hf _ (show 6 < 11 by decide), prtN_set hf _ (show 7 < 11 by decide), prtN_set hf _ (show 8 < 11 by decide), prtN_set hf _ (show 9 < 11 by decide), prtN_set hf _ (show 10 < 11 by decide)]
theorem oks_flat {f : E -> List SV} : ∀ {l : List E}, SV.oks ρ n (l.flatMap f) -> ∀ x ∈ l, SV.oks ρ n (f x)
 | [], _, x, hx => by cases hx
 | y :: l, h, x, hx => by
  rw [List.flatMap_cons] at h; have h := SV.oks_mem.1 h; rcases mCo.1 hx with rfl | hx
  ·exact SV.oks_mem.2 fun s hs => h s (List.mem_append_left _ hs)
  ·exact oks_flat (SV.oks_mem.2 fun s hs => h s (List.mem_append_right _ hs)) x hx
theorem ports_in {w0 w : World} {M : Nat -> Prop} {β : Bm} {hp : Hp} {b : Nat} (hf : Low ρ.fn) (hh : Heap ρ w0 M β hp w) {r : Bool} {ty : TypeId} (hk : hp.at b = some ⟨r, .cells (xs.flatMap fun x => prtC x t) ty 13⟩) (h1 : 1 <= xs.length) (h8 : xs.length <= 8) :
  ArrIn w Dcd.portLk (β b).1 0 xs.length (β b).2 (arrX ρ xs t) := by
 obtain ⟨rest, hl, hn⟩ := hh.lies b _ hk; have hgood : SV.oks ρ hp.n (xs.flatMap fun x => prtC x t) := hh.good b _ hk
 have hlen : ∀ l : List E, (l.flatMap fun x => prtC x t).length = l.length * 12 := fun l => by
  induction l with
  | nil => rfl
  | cons x l ih => rw [List.flatMap_cons, List.length_append, ih, prtC_len, List.length_cons]; omega
 rw [hlen] at hn; have hn : xs.length * 12 + rest.length = (β b).2 * 12 := hn; refine ⟨by omega, by omega, by omega, (Array.getElem?_eq_some_iff.1 hl).1, fun i f l hi hfl => ?_⟩
 have hx := getD_mem' (l := xs) hi; have hok : SV.oks ρ hp.n (prtC (xs.getD i (.lit 0)) t) := oks_flat hgood _ (List.mem_of_getElem? hx); obtain ⟨c1, c2, _⟩ := prt_cell hf hok β hfl; rw [arrX_at, code_div]; refine ⟨?_, c2⟩; have hf12 : f < 12 := (lSo.1 hfl).1
 have hcell : (SV.evs ρ β (xs.flatMap fun x => prtC x t) ++ rest)[i * 12 + f]? = (SV.evs ρ β (prtC (xs.getD i (.lit 0)) t))[f]? := by
  have h2 := flat_get (f := fun x => prtC x t) (z := 12) (fun x => prtC_len x t) xs i f hf12
  rw [lAp (by rw [SV.evs_map, List.length_map, hlen]; omega), SV.evs_map, lMp, h2, hx, SV.evs_map, lMp]
  rfl
 unfold World.cell?; rw [hl]; show (SV.evs ρ β (xs.flatMap fun x => prtC x t) ++ rest).toArray[0 + (i * 12 + f)]? = _
 rw [List.getElem?_toArray, Nat.zero_add, hcell, c1]
end
theorem own_vals {l : List Int} (h : fitsK ks11 l) : Value.agg (valsK ks11 l).toArray = Dcd.dsV (Dcd.dsOf l) /\ phFits Dcd.decSh l /\ l.length = 11 := by
 match l, h with
 | [a0, a1, a2, a3, a4, a5, a6, a7, a8, a9, a10], ⟨h0, _, h1, _, h2, _, h3, _, h4, _, h5, _, h6, _, h7, _, h8, _, h9, _, h10, _, _⟩ =>
  exact ⟨rfl, ⟨⟨h0, h1, h2, h3, h4, h5, h6, h7, h8, h9, h10, trivial⟩, trivial⟩, rfl⟩
section
variable {ρ : Env} {w0 : World} {M : Nat -> Prop} {gl : Gl}
theorem spDecX_ok (hlow : Low ρ.fn) (h71 : ρ.fn 71 = cdI) (hT : ∀ w', Kept w0 M w' -> TabsIn tabs2 w') : SpecOk Tryz.prog ρ w0 M gl spDecX := fun f args hp fs o hs β w hh hfs ha hg => by
 unfold spDecX at hs; split at hs
 ·rename_i os b n
  split at hs
  ·rename_i hfe
   subst hfe; split at hs
   ·rename_i es hes
    split at hs
    ·rename_i q t xs hq hp0
     split at hs
     ·rename_i hn
      obtain rfl := sinj hs; simp only [bAnd, Nat.ble_eq] at hn; obtain ⟨k1, k2, k3⟩ := takeK_spec (β := β) hes ha.1; obtain ⟨q1, q2⟩ := ownQ_spec hq; have hown : E.evs ρ es = ownL (E.evs ρ q) := by rw [<- canons_ev hfs es, q1, ownEs_ev]
      unfold prtsOf at hp0; split at hp0
      ·rename_i r c ty hk
       by_cases hty : ty = 103
       case neg => rw [if_neg hty] at hp0; cases hp0
       rw [if_pos hty] at hp0; obtain ⟨ys, hy, hpair⟩ := Option.map_eq_some_iff.1 hp0; obtain ⟨rfl, rfl⟩ := Prod.mk.inj hpair; obtain ⟨p1, p2⟩ := prtXs_spec _ _ _ hy; rw [p1] at hk; generalize prtT c = t at *; subst p2; have hA := ports_in hlow hh hk hn.1 hn.2; obtain ⟨o1, o2, o3⟩ := own_vals k2; have hd : Dcd.dsOf (E.evs ρ es) = dsOf (ownL (E.evs ρ q)) := by rw [hown]; rfl
       have hcall := Dcd.decA_calls (tabs_one (hT w hh.kept)) hA hn.2 o2 o3; have hgood : SV.oks ρ hp.n (ys.flatMap fun x => prtC x t) := hh.good b _ hk
       have hcode : ∀ i, i < ys.length -> DcLaw.code (Dcd.dsOf (E.evs ρ es)) (Dcd.hasA (arrX ρ ys t)) (Dcd.setA (arrX ρ ys t)) ys.length i = (cdE i (cdL q t ys)).ev ρ := fun i hi => by
        rw [cdE_ev h71 i q2, hd]; unfold codeX; rw [evs_len]; refine DcLaw.code_congr hi fun j hj => ?_
        have hok : SV.oks ρ hp.n (prtC (ys.getD j (.lit 0)) t) := oks_flat hgood _ (List.mem_of_getElem? (getD_mem' hj)); exact ⟨hasX_at hlow hok, setX_at hlow hok⟩
       have hargs : SV.evs ρ β [.agg os, .slice b 0 ys.length none] = [Dcd.dsV (Dcd.dsOf (E.evs ρ es)), .slice (some ⟨(β b).1, 0, none⟩) ys.length (β b).2] := by
        simp only [SV.evs, SV.ev, k1, o1, Option.getD_none]
       rw [hargs]; refine hcall.mono fun e w' ⟨β', he, hl, hnew, hb⟩ => ?_
       have hcodes : ∀ (β1 : Bm) (β2 : Bm), SV.evs ρ β1 ((List.range ys.length).map fun i => SV.int .i64 (cdE i (cdL q t ys))) = SV.evs (envA (Dcd.namesD (Dcd.dsOf (E.evs ρ es)) (arrX ρ ys t) ys.length) (E.evs ρ es ++ [(ys.length : Int), ((β b).2 : Int)]) (arrX ρ ys t)) β2 (Dcd.codesS ys.length) := fun β1 β2 => by
        rw [SV.evs_map, SV.evs_map, Dcd.codesS, List.map_map, List.map_map]; refine List.map_congr_left fun i hi => ?_
        show Value.int .i64 _ = Value.int .i64 _; rw [<- hcode i (mRa.1 hi)]; rfl
       have hok : SV.oks ρ (hp.n + 1) ((List.range ys.length).map fun i => SV.int .i64 (cdE i (cdL q t ys))) := SV.oks_mem.2 fun s hs => by
        obtain ⟨i, hi, rfl⟩ := List.mem_map.1 hs; show (Lit.int .i64 _).wf = true; rw [<- hcode i (mRa.1 hi)]; have := DcLaw.code_rng (own := Dcd.dsOf (E.evs ρ es)) (has := Dcd.hasA (arrX ρ ys t)) (set := Dcd.setA (arrX ρ ys t)) (n := ys.length) i; exact wfI (by omega)
       refine ⟨upd β hp.n (β' 4), upd_ext _ _ _, by simp, Stay.push _ _, Heap.newBox hh hb hnew hok ?_, hfs, ⟨by show hp.n < _; simp, (show (Lit.int .i64 0).wf = true by decide), trivial⟩, ?_⟩
       ·simp only [Bx.lies] at hl ⊢
        rw [hcodes _ β']; exact hl
       ·rw [he]
        simp only [SV.ev, SV.evs, upd_same, Option.getD_some]; rfl
      ·cases hp0
     ·cases hs
    ·cases hs
   ·cases hs
  ·cases hs
 ·cases hs
end
def ownSV : List SV := [iV 1, iV 2, iV 3, iV 4, iV 5, uV 0, .int .i64 (.lit 0), uV 0, .int .i64 (.lit 0), uV 0, .int .i64 (.lit 0)]
def mstQ : List E := (List.range 6).map .var
def mstXs (n : Nat) : List E := (List.range n).map fun i => .var (7 + i)
def mstL (n : Nat) : List E := cdL mstQ (.var 6) (mstXs n)
def mstC (n : Nat) : List SV := (mstXs n).flatMap fun x => prtC x (.var 6)
def mstHp (n : Nat) : Hp := Hp.ofL [⟨false, .cells (mstC n) 103 13⟩]
def mstArgs (n : Nat) : List SV := [.agg ownSV, .slice 0 0 n none]
def callX : Caller := callG Tryz.prog [] okF spDecX noKeep 80 30
def sixE (n i : Nat) : E := eq0 (cdE i (mstL n)) (.lit 6)
def allNo (fs : Fs) (n k : Nat) : Bool := (List.range k).all fun i => decideE fs (sixE n i) == some false
def mstIs (n : Nat) (o : Out) (i : Nat) : Bool := (decideE o.fs (sixE n i) == some true) && allNo o.fs n i && SV.fit o.fs (fun i => .var i) id 0 (.agg (dsS (bstE (.var (7 + i)) (.var 6)))) o.v
def mstLeaf (n : Nat) (o : Out) : Bool := ((List.range n).any fun i => mstIs n o i) || (allNo o.fs n n && SV.fit o.fs (fun i => .var i) id 0 (.agg ownSV) o.v)
def mstB (n : Nat) : Bool := (callX 50 (mstArgs n) (mstHp n) []).all (mstLeaf n)
theorem mst1 : mstB 1 = true := by kernel_rfl
theorem mst2 : mstB 2 = true := by kernel_rfl
theorem mst3 : mstB 3 = true := by kernel_rfl
theorem mst4 : mstB 4 = true := by kernel_rfl
theorem mst5 : mstB 5 = true := by kernel_rfl
theorem mst6 : mstB 6 = true := by kernel_rfl
theorem mst7 : mstB 7 = true := by kernel_rfl
theorem mst8 : mstB 8 = true := by kernel_rfl
theorem mst_all {n : Nat} (h1 : 1 <= n) (h8 : n <= 8) : (callX 50 (mstArgs n) (mstHp n) []).all (mstLeaf n) = true := by
 match n, h1, h8 with
 | 1, _, _ => exact mst1
 | 2, _, _ => exact mst2
 | 3, _, _ => exact mst3
 | 4, _, _ => exact mst4
 | 5, _, _ => exact mst5
 | 6, _, _ => exact mst6
 | 7, _, _ => exact mst7
 | 8, _, _ => exact mst8
def spMastF (g : FuncId) : Spc := fun f args hp fs => match args with
 | [.agg os, .slice b 0 n none] => if f = g then (match takeK ks11 os with
  | some es => match ownQ (canons fs es), prtsOf hp b n with
   | some q, some (t, xs) => if Nat.ble 1 n && Nat.ble n 8 then some ⟨.agg (dsS fun j => msE j (cdL q t xs)), hp, fs⟩ else none
   | _, _ => none
  | none => none) else none
 | _ => none
def spMast : Spc := spMastF 50
section
variable {ρ ρ' : Env}
theorem prtC_same {x t x' t' : E} (hf : ρ'.fn = ρ.fn) (hx : x'.ev ρ' = x.ev ρ) (ht : t'.ev ρ' = t.ev ρ) : (∀ β β', SV.evs ρ' β' (prtC x' t') = SV.evs ρ β (prtC x t)) /\ ∀ n m, SV.oks ρ n (prtC x t) -> SV.oks ρ' m (prtC x' t') := by
 have e0 : (bokE x' t').ev ρ' = (bokE x t).ev ρ := by
  show ρ'.fn 49 0 [x'.ev ρ', t'.ev ρ'] = ρ.fn 49 0 [x.ev ρ, t.ev ρ]; rw [hf, hx, ht]
 have e : ∀ j, (bstE x' t' j).ev ρ' = (bstE x t j).ev ρ := fun j => by
  show ρ'.fn 48 j [x'.ev ρ', t'.ev ρ'] = ρ.fn 48 j [x.ev ρ, t.ev ρ]; rw [hf, hx, ht]
 refine ⟨fun β β' => ?_, fun n m h => ?_⟩
 ·simp only [prtC, dsS, ksE, ks11, SV.evs, SV.ev, e, e0]
 ·simp only [prtC, dsS, ksE, ks11, SV.oks, SV.ok, e] at h ⊢
  exact h
theorem flat_same {f g : E -> List SV} {n m : Nat} {β β' : Bm} : ∀ {l l' : List E}, l'.length = l.length -> (∀ i, i < l.length -> SV.evs ρ' β' (g (l'.getD i (.lit 0))) = SV.evs ρ β (f (l.getD i (.lit 0))) /\ (SV.oks ρ n (f (l.getD i (.lit 0))) -> SV.oks ρ' m (g (l'.getD i (.lit 0))))) ->
  SV.evs ρ' β' (l'.flatMap g) = SV.evs ρ β (l.flatMap f) /\ (SV.oks ρ n (l.flatMap f) -> SV.oks ρ' m (l'.flatMap g))
 | [], [], _, _ => ⟨rfl, fun _ => trivial⟩
 | [], _ :: _, h, _ => by cases h
 | _ :: _, [], h, _ => by cases h
 | x :: l, x' :: l', h, hi => by
  obtain ⟨h1, h2⟩ := hi 0 (by simp)
  obtain ⟨h3, h4⟩ := flat_same (l := l) (l' := l') (f := f) (g := g) (n := n) (m := m) (β := β) (β' := β') (by simpa using h) fun i hl => by
   have := hi (i + 1) (by simpa using hl)
   simpa only [List.getD_cons_succ] using this
  have h1 : SV.evs ρ' β' (g x') = SV.evs ρ β (f x) := h1; refine ⟨by rw [List.flatMap_cons, List.flatMap_cons, SX.evs_append, SX.evs_append, h1, h3], fun ho => ?_⟩
  rw [List.flatMap_cons] at ho ⊢; have ho := SV.oks_mem.1 ho; have a1 := SV.oks_mem.1 (h2 (SV.oks_mem.2 fun s hs => ho s (List.mem_append_left _ hs)))
  have a2 := SV.oks_mem.1 (h4 (SV.oks_mem.2 fun s hs => ho s (List.mem_append_right _ hs)))
  exact SV.oks_mem.2 fun s hs => (List.mem_append.1 hs).elim (a1 s) (a2 s)
end
theorem SX.evs_map' {ρ : Env} : ∀ l : List E, E.evs ρ l = l.map (E.ev ρ)
 | [] => rfl
 | e :: l => by simp [E.evs, SX.evs_map' l]
theorem agg_ev {ρ : Env} {β : Bm} {l : List SV} : (SV.agg l).ev ρ β = .agg (SV.evs ρ β l).toArray := rfl
section
variable {ρ : Env} {w0 : World} {M : Nat -> Prop} {gl : Gl}
theorem callX_ok (hlow : Low ρ.fn) (h71 : ρ.fn 71 = cdI) (hT : ∀ w', Kept w0 M w' -> TabsIn tabs2 w') : CallOk Tryz.prog ρ w0 M [] callX := callG_run mixed okF_ok (spDecX_ok hlow h71 hT) 30
theorem allNo_spec {fs : Fs} (hf : SX.FsOk ρ fs) {n k : Nat} (h : allNo fs n k = true) : ∀ i, i < k -> (cdE i (mstL n)).ev ρ ≠ 6 := fun i hi => by
 have := lAl.1 h i (mRa.2 hi); rw [beq_iff_eq] at this; exact neq_of_decide hf this
theorem eq_of_decide' {fs : Fs} (hf : SX.FsOk ρ fs) {a b : E} (h : decideE fs (eq0 a b) = some true) : a.ev ρ = b.ev ρ := by
 have := decideD_spec hf (show decideD fs (eq0 a b) = some true by unfold decideD; rw [h])
 exact (eq0_ev a b).1 (of_decide_eq_true this)
theorem mast_leaf (hlow : Low ρ.fn) (h71 : ρ.fn 71 = cdI) {n : Nat} {o : Out} (hf : SX.FsOk ρ o.fs) (h : mstLeaf n o = true) (β : Bm) (hown : SV.evs ρ β ownSV = valsK ks11 (ownL (E.evs ρ mstQ))) :
  o.v.ev ρ β = .agg (valsK ks11 (mastX (E.evs ρ mstQ) (ρ.v 6) (E.evs ρ (mstXs n)))).toArray := by
 have hcode : ∀ i, (cdE i (mstL n)).ev ρ = codeX (E.evs ρ mstQ) (ρ.v 6) (E.evs ρ (mstXs n)) i := fun i => cdE_ev h71 i rfl _ _
 have hlen : (E.evs ρ (mstXs n)).length = n := by rw [evs_len]; simp [mstXs]
 unfold mstLeaf at h; rw [bOr] at h; rcases h with h | h
 ·obtain ⟨i, hi, h⟩ := List.any_eq_true.1 h
  have hi := mRa.1 hi; simp only [mstIs, bAnd, beq_iff_eq] at h; obtain ⟨⟨h1, h2⟩, h3⟩ := h; have a1 : codeX (E.evs ρ mstQ) (ρ.v 6) (E.evs ρ (mstXs n)) i = 6 := (hcode i).symm.trans (eq_of_decide' hf h1); have a2 := allNo_spec hf h2
  have hs : slaveX (E.evs ρ mstQ) (ρ.v 6) (E.evs ρ (mstXs n)) = some i := by
   unfold slaveX; rw [hlen, List.find?_range_eq_some]; exact ⟨decide_eq_true a1, mRa.2 hi, fun j hj => by rw [<- hcode]; simpa using a2 j hj⟩
  obtain ⟨f1, _⟩ := SV.fit_spec (β := β) (m := 0) hf _ _ h3; rw [envSub_var] at f1; rw [f1, agg_ev]; unfold mastX; rw [hs]
  have hx : (E.evs ρ (mstXs n)).getD i 0 = (E.var (7 + i)).ev ρ := by
   rw [evs_getD, mstXs, gDe, lMp, lRa hi]; rfl
  show _ = Value.agg (valsK ks11 (bestD (qual (dec ((E.evs ρ (mstXs n)).getD i 0)) (ρ.v 6)))).toArray; rw [hx]; congr 2; exact dsS_ev fun j hj => bstE_ev hlow _ _ j
 ·simp only [bAnd] at h
  obtain ⟨h2, h3⟩ := h; have a2 := allNo_spec hf h2
  have hs : slaveX (E.evs ρ mstQ) (ρ.v 6) (E.evs ρ (mstXs n)) = none := by
   unfold slaveX; rw [hlen, List.find?_eq_none]; intro j hj; have := a2 j (mRa.1 hj); rw [hcode] at this
   simpa using this
  obtain ⟨f1, _⟩ := SV.fit_spec (β := β) (m := 0) hf _ _ h3; rw [envSub_var] at f1; rw [f1, agg_ev]; unfold mastX; rw [hs]; congr 2
theorem ownSV_eq : (dsS fun j => (ownEs mstQ).getD j (.lit 0)) = ownSV := rfl
theorem dsS_same {ρ ρ' : Env} {f g : Nat -> E} (h : ∀ j, j < 11 -> (f j).ev ρ = (g j).ev ρ') (n m : Nat) (hg : SV.oks ρ' m (dsS g)) : SV.oks ρ n (dsS f) := by
 simp only [dsS, ksE, ks11, SV.oks, SV.ok] at hg ⊢; simp only [h 0 (by decide), h 1 (by decide), h 2 (by decide), h 3 (by decide), h 4 (by decide), h 5 (by decide), h 6 (by decide), h 7 (by decide), h 8 (by decide), h 9 (by decide), h 10 (by decide)]
 exact hg
theorem mast_ok (hlow : Low ρ.fn) (h71 : ρ.fn 71 = cdI) {n : Nat} {o : Out} (hf : SX.FsOk ρ o.fs) (h : mstLeaf n o = true) (k : Nat) (hv : o.v.ok ρ k) {ρ1 : Env} {f : Nat -> E} (hm : ∀ j, (f j).ev ρ1 = (mastX (E.evs ρ mstQ) (ρ.v 6) (E.evs ρ (mstXs n))).getD j 0) (m : Nat) : SV.oks ρ1 m (dsS f) := by
 have hcode : ∀ i, (cdE i (mstL n)).ev ρ = codeX (E.evs ρ mstQ) (ρ.v 6) (E.evs ρ (mstXs n)) i := fun i => cdE_ev h71 i rfl _ _
 have hlen : (E.evs ρ (mstXs n)).length = n := by rw [evs_len]; simp [mstXs]
 unfold mstLeaf at h; rw [bOr] at h; rcases h with h | h
 ·obtain ⟨i, hi, h⟩ := List.any_eq_true.1 h
  have hi := mRa.1 hi; simp only [mstIs, bAnd, beq_iff_eq] at h; obtain ⟨⟨h1, h2⟩, h3⟩ := h; have a1 : codeX (E.evs ρ mstQ) (ρ.v 6) (E.evs ρ (mstXs n)) i = 6 := (hcode i).symm.trans (eq_of_decide' hf h1); have a2 := allNo_spec hf h2
  have hs : slaveX (E.evs ρ mstQ) (ρ.v 6) (E.evs ρ (mstXs n)) = some i := by
   unfold slaveX; rw [hlen, List.find?_range_eq_some]; exact ⟨decide_eq_true a1, mRa.2 hi, fun j hj => by rw [<- hcode]; simpa using a2 j hj⟩
  obtain ⟨_, f2⟩ := SV.fit_spec (β := β0) (m := k) hf _ _ h3; rw [envSub_var] at f2; refine dsS_same (ρ' := ρ) (g := bstE (.var (7 + i)) (.var 6)) (fun j _ => ?_) m 0 (f2 hv)
  rw [hm]
  have hx : (E.evs ρ (mstXs n)).getD i 0 = (E.var (7 + i)).ev ρ := by
   rw [evs_getD, mstXs, gDe, lMp, lRa hi]; rfl
  unfold mastX; rw [hs]; show (bestD (qual (dec ((E.evs ρ (mstXs n)).getD i 0)) (ρ.v 6))).getD j 0 = _; rw [hx]; exact (bstE_ev hlow (.var (7 + i)) (.var 6) j).symm
 ·simp only [bAnd] at h
  obtain ⟨h2, h3⟩ := h; have a2 := allNo_spec hf h2
  have hs : slaveX (E.evs ρ mstQ) (ρ.v 6) (E.evs ρ (mstXs n)) = none := by
   unfold slaveX; rw [hlen, List.find?_eq_none]; intro j hj; have := a2 j (mRa.1 hj); rw [hcode] at this
   simpa using this
  obtain ⟨_, f2⟩ := SV.fit_spec (β := β0) (m := k) hf _ _ h3; rw [envSub_var] at f2; have f3 : SV.ok ρ 0 (.agg ownSV) := f2 hv; have f3 : SV.oks ρ 0 ownSV := by simpa only [SV.ok] using f3
  rw [<- ownSV_eq] at f3; refine dsS_same (ρ' := ρ) (g := fun j => (ownEs mstQ).getD j (.lit 0)) (fun j _ => ?_) m 0 f3
  rw [hm]; unfold mastX; rw [hs]; show (ownL (E.evs ρ mstQ)).getD j 0 = _; rw [<- ownEs_ev, evs_getD]
theorem spMastF_ok {g : FuncId} {call : Caller} (hcall : ∀ {ρ : Env} {w0 : World} {M : Nat -> Prop}, Low ρ.fn -> ρ.fn 71 = cdI -> (∀ w', Kept w0 M w' -> TabsIn tabs2 w') -> CallOk Tryz.prog ρ w0 M [] call) (hms : ∀ {n : Nat}, 1 <= n -> n <= 8 -> (call g (mstArgs n) (mstHp n) []).all (mstLeaf n) = true) (hlow : Low ρ.fn) (h71 : ρ.fn 71 = cdI) (h72 : ρ.fn 72 = msI) (hT : ∀ w', Kept w0 M w' -> TabsIn tabs2 w') : SpecOk Tryz.prog ρ w0 M gl (spMastF g) := fun f args hp fs o hs β w hh hfs ha hg => by
 unfold spMastF at hs; split at hs
 ·rename_i os b n
  split at hs
  ·rename_i hfe
   subst hfe; split at hs
   ·rename_i es hes
    split at hs
    ·rename_i q t xs hq hp0
     split at hs
     ·rename_i hn
      obtain rfl := sinj hs; simp only [bAnd, Nat.ble_eq] at hn; obtain ⟨k1, k2, k3⟩ := takeK_spec (β := β) hes ha.1; obtain ⟨q1, q2⟩ := ownQ_spec hq; have hown : E.evs ρ es = ownL (E.evs ρ q) := by rw [<- canons_ev hfs es, q1, ownEs_ev]
      unfold prtsOf at hp0; split at hp0
      ·rename_i r c ty hk
       by_cases hty : ty = 103
       case neg => rw [if_neg hty] at hp0; cases hp0
       rw [if_pos hty] at hp0; obtain ⟨ys, hy, hpair⟩ := Option.map_eq_some_iff.1 hp0; obtain ⟨rfl, rfl⟩ := Prod.mk.inj hpair; obtain ⟨p1, p2⟩ := prtXs_spec _ _ _ hy; rw [p1] at hk; generalize prtT c = t at *; subst p2; subst hty; have hgood : SV.oks ρ hp.n (ys.flatMap fun x => prtC x t) := hh.good b _ hk
       -- the call by itself
       let ρ1 : Env := envOf ρ.fn (E.evs ρ (cdL q t ys))
       obtain ⟨l1, l2, l3⟩ := cdL_parts (ρ := ρ) q2 t ys; have hq6 : (E.evs ρ q).length = 6 := by rw [evs_len, q2]
       have v0 : ∀ i, i < 6 -> ρ1.v i = (E.evs ρ q).getD i 0 := fun i hi => by
        rw [<- l1, gDe (l := List.take 6 _), List.getElem?_take, if_pos hi, <- gDe]; rfl
       have v6 : ρ1.v 6 = t.ev ρ := l2
       have v7 : ∀ i, ρ1.v (7 + i) = (E.evs ρ ys).getD i 0 := fun i => by
        rw [<- l3, gDe (l := List.drop 7 _), List.getElem?_drop, <- gDe]; rfl
       have eQ : E.evs ρ1 mstQ = E.evs ρ q := by
        have e : E.evs ρ1 mstQ = [ρ1.v 0, ρ1.v 1, ρ1.v 2, ρ1.v 3, ρ1.v 4, ρ1.v 5] := rfl; rw [e, v0 0 (by decide), v0 1 (by decide), v0 2 (by decide), v0 3 (by decide), v0 4 (by decide), v0 5 (by decide)]
        match E.evs ρ q, hq6 with
        | [_, _, _, _, _, _], _ => rfl
       have eX : E.evs ρ1 (mstXs ys.length) = E.evs ρ ys := by
        refine List.ext_getElem? fun i => ?_
        by_cases hi : i < ys.length
        ·have h1 := getD_mem' (l := ys) hi
         rw [SX.evs_map' (mstXs ys.length), SX.evs_map' ys, lMp, lMp, h1, mstXs, lMp, lRa hi]; show some (ρ1.v (7 + i)) = some _; rw [v7, evs_getD]
        ·rw [lNo (by rw [evs_len]; simp [mstXs]; omega), lNo (by rw [evs_len]; omega)]
       have hflat := flat_same (ρ := ρ) (ρ' := ρ1) (f := fun x => prtC x t) (g := fun x => prtC x (.var 6)) (n := hp.n) (m := 1) (β := β) (β' := fun _ => β b) (l := ys) (l' := mstXs ys.length) (by simp [mstXs]) fun i hi => by
        have hx : ((mstXs ys.length).getD i (.lit 0)).ev ρ1 = (ys.getD i (.lit 0)).ev ρ := by
         rw [<- evs_getD, <- evs_getD, eX]
        obtain ⟨s1, s2⟩ := prtC_same (ρ := ρ) (ρ' := ρ1) (x := ys.getD i (.lit 0)) (t := t) (x' := (mstXs ys.length).getD i (.lit 0)) (t' := .var 6) rfl hx v6; exact ⟨s1 _ _, s2 _ _⟩
       have hat : ∀ (j : Nat) (x : Box), (mstHp ys.length).at j = some x -> j = 0 /\ x = ⟨false, .cells (mstC ys.length) 103 13⟩ := fun j x hj => by
        rw [mstHp, ofL_at] at hj
        match j, hj with
        | 0, hj => exact ⟨rfl, (sinj hj).symm⟩
        | j + 1, hj => cases hj
       have hh1 : Heap ρ1 w (fun _ => False) (fun _ => β b) (mstHp ys.length) w := by
        refine ⟨fun j x hj => ?_, fun i j x y hi hj hx hy e => ?_, fun j x hj hr hx => ?_, fun j x hj => ?_, Kept.refl _ _, fun j x hj hx => ?_, ObjsOk.none fun j x hj => ?_⟩
        ·obtain ⟨rfl, rfl⟩ := hat j x hj
         obtain ⟨rest, a1, a2⟩ := hh.lies b _ hk; refine ⟨rest, ?_, ?_⟩
         ·rw [mstC, hflat.1]; exact a1
         ·have hl : ∀ l : List E, ∀ u, (l.flatMap fun x => prtC x u).length = l.length * 12 := fun l u => by
           induction l with
           | nil => rfl
           | cons x l ih => rw [List.flatMap_cons, List.length_append, ih, prtC_len, List.length_cons]; omega
          rw [hl] at a2; rw [mstC, hl]; simp only [mstXs, List.length_map, List.length_range]; exact a2
        ·obtain ⟨rfl, rfl⟩ := hat i x hi; obtain ⟨rfl, rfl⟩ := hat j y hj; rfl
        ·obtain ⟨rfl, rfl⟩ := hat j x hj; cases hr
        ·obtain ⟨rfl, rfl⟩ := hat j x hj; exact hflat.2 hgood
        ·obtain ⟨rfl, rfl⟩ := hat j x hj; cases hx
        ·obtain ⟨rfl, rfl⟩ := hat j x hj; rfl
       have hown1 : ∀ β1 : Bm, SV.evs ρ1 β1 ownSV = valsK ks11 (ownL (E.evs ρ1 mstQ)) := fun β1 => rfl
       have hargs1 : SV.oks ρ1 1 (mstArgs ys.length) := by
        refine ⟨?_, show 0 < 1 by omega, trivial⟩
        show SV.oks ρ1 1 ownSV; have hd : SV.oks ρ1 1 (dsS fun j => (ownEs mstQ).getD j (.lit 0)) := dsS_ok (d := E.evs ρ es) (fun j hj => by rw [hown, <- eQ, <- ownEs_ev, evs_getD]) k2
        rw [ownSV_eq] at hd; exact hd
       have hT1 : ∀ w', Kept w (fun _ => False) w' -> TabsIn tabs2 w' := fun w' hk' => hT w' (Kept.nest hh.kept (fun i hi => hi.elim) hk')
       have hrun := (hcall (ρ := ρ1) hlow h71 hT1 _ (mstArgs ys.length) (mstHp ys.length) [] (fun _ => β b) w
        (fun v w' => v = .agg (valsK ks11 (mastX (E.evs ρ q) (t.ev ρ) (E.evs ρ ys))).toArray /\ SV.oks ρ hp.n (dsS fun j => msE j (cdL q t ys)) /\ Below w.heap.size w w')
        hh1 (fun p hp => by cases hp) hargs1 (fun p hp => by cases hp) (goes_all (hms hn.1 hn.2) ?_)).2
       ·have hargs : SV.evs ρ1 (fun _ => β b) (mstArgs ys.length) = SV.evs ρ β [.agg os, .slice b 0 ys.length none] := by
         show [Value.agg (SV.evs ρ1 _ ownSV).toArray, _] = [Value.agg (SV.evs ρ β os).toArray, _]; rw [hown1, eQ, k1, hown]; rfl
        rw [hargs] at hrun; refine hrun.mono fun e w' ⟨v, he, hv, hok, hb⟩ => ⟨β, Ext.refl _ _, Nat.le_refl _, Stay.refl _, hh.below hb, hfs, hok, ?_⟩
        rw [he, hv, agg_ev, dsS_ev (d := mastX (E.evs ρ q) (t.ev ρ) (E.evs ρ ys)) fun i _ => msE_ev h72 i q2 t ys]
        rfl
       ·intro o2 ho β' w' _ _ _ hh' hf' hv
        have a1 := mast_leaf (ρ := ρ1) hlow h71 hf' ho β' (hown1 β'); rw [eQ, eX, v6] at a1; refine ⟨a1, mast_ok (ρ := ρ1) hlow h71 hf' ho _ hv (ρ1 := ρ) (fun j => ?_) _, hh'.kept.to_below⟩
        rw [msE_ev h72 j q2, eQ, eX, v6]
      ·cases hp0
     ·cases hs
    ·cases hs
   ·cases hs
  ·cases hs
 ·cases hs
theorem spMast_ok (hlow : Low ρ.fn) (h71 : ρ.fn 71 = cdI) (h72 : ρ.fn 72 = msI) (hT : ∀ w', Kept w0 M w' -> TabsIn tabs2 w') : SpecOk Tryz.prog ρ w0 M gl spMast := spMastF_ok (call := callX) (fun h h1 h2 => callX_ok h h1 h2) (fun h h' => by
 have := mst_all h h'; unfold mstB at this; exact this) hlow h71 h72 hT
end
def spDecXR : Spc := fun f args hp fs => match args with
 | [.agg os, .slice b 0 n none] => if f = 67 then (match takeK ks11 os with
  | some es => match ownQ (canons fs es), prtsOf hp b n with
   | some q, some (t, xs) => if Nat.ble 1 n && Nat.ble n 8 then
     some ⟨.tuple [.slice hp.n 0 n none, .int .i64 (.lit 0)], hp.push ⟨true, .cells ((List.range n).map fun i => .int .i64 (cdE i (cdL q t xs))) 3 2⟩, fs⟩
    else none
   | _, _ => none
  | none => none) else none
 | _ => none
section
variable {ρ : Env} {w0 : World} {M : Nat -> Prop} {gl : Gl}
theorem spDecXR_ok (hlow : Low ρ.fn) (h71 : ρ.fn 71 = cdI) (hT : ∀ w', Kept w0 M w' -> TabsIn tabs2 w') : SpecOk Tryz.prog ρ w0 M gl spDecXR := fun f args hp fs o hs β w hh hfs ha hg => by
 unfold spDecXR at hs; split at hs
 ·rename_i os b n
  split at hs
  ·rename_i hfe
   subst hfe; split at hs
   ·rename_i es hes
    split at hs
    ·rename_i q t xs hq hp0
     split at hs
     ·rename_i hn
      obtain rfl := sinj hs; simp only [bAnd, Nat.ble_eq] at hn; obtain ⟨k1, k2, k3⟩ := takeK_spec (β := β) hes ha.1; obtain ⟨q1, q2⟩ := ownQ_spec hq; have hown : E.evs ρ es = ownL (E.evs ρ q) := by rw [<- canons_ev hfs es, q1, ownEs_ev]
      unfold prtsOf at hp0; split at hp0
      ·rename_i r c ty hk
       by_cases hty : ty = 103
       case neg => rw [if_neg hty] at hp0; cases hp0
       rw [if_pos hty] at hp0; obtain ⟨ys, hy, hpair⟩ := Option.map_eq_some_iff.1 hp0; obtain ⟨rfl, rfl⟩ := Prod.mk.inj hpair; obtain ⟨p1, p2⟩ := prtXs_spec _ _ _ hy; rw [p1] at hk; generalize prtT c = t at *; subst p2; have hA := ports_in hlow hh hk hn.1 hn.2; obtain ⟨o1, o2, o3⟩ := own_vals k2; have hd : Dcd.dsOf (E.evs ρ es) = dsOf (ownL (E.evs ρ q)) := by rw [hown]; rfl
       have hcall := Dcd.decB_calls (tabs_one (hT w hh.kept)) hA hn.2 o2 o3; have hgood : SV.oks ρ hp.n (ys.flatMap fun x => prtC x t) := hh.good b _ hk
       have hcode : ∀ i, i < ys.length -> DcLaw.code (Dcd.dsOf (E.evs ρ es)) (Dcd.hasA (arrX ρ ys t)) (Dcd.setA (arrX ρ ys t)) ys.length i = (cdE i (cdL q t ys)).ev ρ := fun i hi => by
        rw [cdE_ev h71 i q2, hd]; unfold codeX; rw [evs_len]; refine DcLaw.code_congr hi fun j hj => ?_
        have hok : SV.oks ρ hp.n (prtC (ys.getD j (.lit 0)) t) := oks_flat hgood _ (List.mem_of_getElem? (getD_mem' hj)); exact ⟨hasX_at hlow hok, setX_at hlow hok⟩
       have hargs : SV.evs ρ β [.agg os, .slice b 0 ys.length none] = [Dcd.dsV (Dcd.dsOf (E.evs ρ es)), .slice (some ⟨(β b).1, 0, none⟩) ys.length (β b).2] := by
        simp only [SV.evs, SV.ev, k1, o1, Option.getD_none]
       rw [hargs]; refine hcall.mono fun e w' ⟨β', he, hl, hnew, hb⟩ => ?_
       have hcodes : ∀ (β1 : Bm) (β2 : Bm), SV.evs ρ β1 ((List.range ys.length).map fun i => SV.int .i64 (cdE i (cdL q t ys))) = SV.evs (envA (Dcd.namesD (Dcd.dsOf (E.evs ρ es)) (arrX ρ ys t) ys.length) (E.evs ρ es ++ [(ys.length : Int), ((β b).2 : Int)]) (arrX ρ ys t)) β2 (Dcd.codesS ys.length) := fun β1 β2 => by
        rw [SV.evs_map, SV.evs_map, Dcd.codesS, List.map_map, List.map_map]; refine List.map_congr_left fun i hi => ?_
        show Value.int .i64 _ = Value.int .i64 _; rw [<- hcode i (mRa.1 hi)]; rfl
       have hok : SV.oks ρ (hp.n + 1) ((List.range ys.length).map fun i => SV.int .i64 (cdE i (cdL q t ys))) := SV.oks_mem.2 fun s hs => by
        obtain ⟨i, hi, rfl⟩ := List.mem_map.1 hs; show (Lit.int .i64 _).wf = true; rw [<- hcode i (mRa.1 hi)]; have := DcLaw.code_rng (own := Dcd.dsOf (E.evs ρ es)) (has := Dcd.hasA (arrX ρ ys t)) (set := Dcd.setA (arrX ρ ys t)) (n := ys.length) i; exact wfI (by omega)
       refine ⟨upd β hp.n (β' 3), upd_ext _ _ _, by simp, Stay.push _ _, Heap.newBox hh hb hnew hok ?_, hfs, ⟨by show hp.n < _; simp, (show (Lit.int .i64 0).wf = true by decide), trivial⟩, ?_⟩
       ·obtain ⟨rest, r1, r2⟩ := hl
        refine ⟨rest, ?_, ?_⟩
        ·rw [hcodes _ β']; exact r1
        ·simpa [Dcd.codesS] using r2
       ·rw [he]
        simp only [SV.ev, SV.evs, upd_same, Option.getD_some]; rfl
      ·cases hp0
     ·cases hs
    ·cases hs
   ·cases hs
  ·cases hs
 ·cases hs
end
def callXR : Caller := callG Tryz.prog [] okF spDecXR noKeep 80 30
def mstBR (n : Nat) : Bool := (callXR 69 (mstArgs n) (mstHp n) []).all (mstLeaf n)
theorem mst1R : mstBR 1 = true := by kernel_rfl
theorem mst2R : mstBR 2 = true := by kernel_rfl
theorem mst3R : mstBR 3 = true := by kernel_rfl
theorem mst4R : mstBR 4 = true := by kernel_rfl
theorem mst5R : mstBR 5 = true := by kernel_rfl
theorem mst6R : mstBR 6 = true := by kernel_rfl
theorem mst7R : mstBR 7 = true := by kernel_rfl
theorem mst8R : mstBR 8 = true := by kernel_rfl
theorem mst_allR {n : Nat} (h1 : 1 <= n) (h8 : n <= 8) : (callXR 69 (mstArgs n) (mstHp n) []).all (mstLeaf n) = true := by
 match n, h1, h8 with
 | 1, _, _ => exact mst1R
 | 2, _, _ => exact mst2R
 | 3, _, _ => exact mst3R
 | 4, _, _ => exact mst4R
 | 5, _, _ => exact mst5R
 | 6, _, _ => exact mst6R
 | 7, _, _ => exact mst7R
 | 8, _, _ => exact mst8R
def spMastR : Spc := spMastF 69
section
variable {ρ : Env} {w0 : World} {M : Nat -> Prop} {gl : Gl}
theorem callX_okR (hlow : Low ρ.fn) (h71 : ρ.fn 71 = cdI) (hT : ∀ w', Kept w0 M w' -> TabsIn tabs2 w') : CallOk Tryz.prog ρ w0 M [] callXR := callG_run mixed okF_ok (spDecXR_ok hlow h71 hT) 30
theorem spMast_okR (hlow : Low ρ.fn) (h71 : ρ.fn 71 = cdI) (h72 : ρ.fn 72 = msI) (hT : ∀ w', Kept w0 M w' -> TabsIn tabs2 w') : SpecOk Tryz.prog ρ w0 M gl spMastR := spMastF_ok (call := callXR) (fun h h1 h2 => callX_okR h h1 h2) (fun h h' => by
 have := mst_allR h h'; unfold mstBR at this; exact this) hlow h71 h72 hT
end
end
end
end Go.Proofs.YtfcpmapfhgibpaaGreatDoor
