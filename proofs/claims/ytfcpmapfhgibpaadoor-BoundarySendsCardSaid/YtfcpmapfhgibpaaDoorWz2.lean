/- What Send returns, in plain words; rules. -/
import Derived.Test.YtfcpmapfhgibpaaDoorSk1
import Derived.Test.YtfcpmapfhgibpaaDoorSk60
import Derived.Test.YtfcpmapfhgibpaaDoorSk70
import Derived.Test.YtfcpmapfhgibpaaDoorSk80
import Derived.Test.YtfcpmapfhgibpaaDoorSk81
import Derived.Test.YtfcpmapfhgibpaaDoorWz1
namespace Go.Proofs.YtfcpmapfhgibpaaDoor
open Go Go.RowKit SX Frm Frn
theorem sk6 : allC (sndChk 6) [] (clSend.m.tree callK (clA 6)) = true := partC_all 2 _ _ fun l hl => match l, hl with
  | [true, true], _ => sk6tt
  | [true, false], _ => sk6tf
  | [false, true], _ => sk6ft
  | [false, false], _ => sk6ff
theorem sk7 : allC (sndChk 7) [] (clSend.m.tree callK (clA 7)) = true := partC_all 3 _ _ fun l hl => match l, hl with
  | [true, true, true], _ => sk7ttt
  | [true, true, false], _ => sk7ttf
  | [true, false, true], _ => sk7tft
  | [true, false, false], _ => sk7tff
  | [false, true, true], _ => sk7ftt
  | [false, true, false], _ => sk7ftf
  | [false, false, true], _ => sk7fft
  | [false, false, false], _ => sk7fff
theorem sk8 : allC (sndChk 8) [] (clSend.m.tree callK (clA 8)) = true := partC_all 5 _ _ fun l hl => match l, hl with
  | [true, true, true, true, true], _ => sk8ttttt
  | [true, true, true, true, false], _ => sk8ttttf
  | [true, true, true, false, true], _ => sk8tttft
  | [true, true, true, false, false], _ => sk8tttff
  | [true, true, false, true, true], _ => sk8ttftt
  | [true, true, false, true, false], _ => sk8ttftf
  | [true, true, false, false, true], _ => sk8ttfft
  | [true, true, false, false, false], _ => sk8ttfff
  | [true, false, true, true, true], _ => sk8tfttt
  | [true, false, true, true, false], _ => sk8tfttf
  | [true, false, true, false, true], _ => sk8tftft
  | [true, false, true, false, false], _ => sk8tftff
  | [true, false, false, true, true], _ => sk8tfftt
  | [true, false, false, true, false], _ => sk8tfftf
  | [true, false, false, false, true], _ => sk8tffft
  | [true, false, false, false, false], _ => sk8tffff
  | [false, true, true, true, true], _ => sk8ftttt
  | [false, true, true, true, false], _ => sk8ftttf
  | [false, true, true, false, true], _ => sk8fttft
  | [false, true, true, false, false], _ => sk8fttff
  | [false, true, false, true, true], _ => sk8ftftt
  | [false, true, false, true, false], _ => sk8ftftf
  | [false, true, false, false, true], _ => sk8ftfft
  | [false, true, false, false, false], _ => sk8ftfff
  | [false, false, true, true, true], _ => sk8ffttt
  | [false, false, true, true, false], _ => sk8ffttf
  | [false, false, true, false, true], _ => sk8fftft
  | [false, false, true, false, false], _ => sk8fftff
  | [false, false, false, true, true], _ => sk8ffftt
  | [false, false, false, true, false], _ => sk8ffftf
  | [false, false, false, false, true], _ => sk8fffft
  | [false, false, false, false, false], _ => sk8fffff
theorem sk_all {n : Nat} (h : 1 ≤ n) (h' : n ≤ 8) : allC (sndChk n) [] (clSend.m.tree callK (clA n)) = true := by8 (p := fun n => allC (sndChk n) [] (clSend.m.tree callK (clA n)) = true) sk1 sk2 sk3 sk4 sk5 sk6 sk7 sk8 h h'
end Go.Proofs.YtfcpmapfhgibpaaDoor
namespace Go.Proofs.YtfcpmapfhgibpaaDoor
open Go Go.RowKit SX Frm Frn
set_option linter.unusedVariables false
set_option linter.unusedSimpArgs false
set_option maxRecDepth 100000

noncomputable abbrev rS (ms : List Int) : Env := envOf nm90 ms
/-- The ports that send. -/
noncomputable def psOf (t : Nat) (ms : List Int) : List Nat := if samA.ev (rS ms) ≠ 0 ∨ ltS.ev (rS ms) ≠ 0 then (List.range t).filter fun i => decide ((masE i).ev (rS ms) ≠ 0) else []
noncomputable def stOf (ms : List Int) : E := if samA.ev (rS ms) ≠ 0 then .lit 0 else stpE
/-- The numbers behind Send. -/
noncomputable def nsOf (t : Nat) (ms : List Int) : List Int := (List.range (23 + 6 * t)).map fun v => (sndV (psOf t ms) v).ev (rS ms)
theorem filt_ok {n : Nat} {p : Fs} {ρ : Env} (hp : SX.FsOk ρ p) (ha : ((List.range n).all fun i => (hasQ p (masE i)).isSome) = true) : ((List.range n).filter fun i => hasQ p (masE i) == some true) = (List.range n).filter fun i => decide ((masE i).ev ρ ≠ 0) := by
  refine List.filter_congr fun i hi => ?_
  obtain ⟨b, hb⟩ := Option.isSome_iff_exists.1 (List.all_eq_true.1 ha i hi)
  have := hasQ_ok hp hb
  rw [hb]
  cases b with
  | true => exact (decide_eq_true (this.2 rfl)).symm
  | false => exact (decide_eq_false fun h => Bool.noConfusion (this.1 h)).symm
theorem sndE_len (st : E) (i : Nat) : (sndE st i).length = 22 := rfl
theorem flat_ev {ρ : Env} {st : E} {ps : List Nat} {i f : Nat} (hi : i < ps.length) (hf : f < 22) : (E.evs ρ (ps.flatMap (sndE st))).getD (i * 22 + f) 0 = ((sndE st (ps.getD i 0)).getD f (.lit 0)).ev ρ := by
  rw [evs_getD, List.getD_eq_getElem?_getD, flat_get' (sndE_len st) ps i f hf, List.getElem?_eq_getElem hi]
  show (((sndE st ps[i])[f]?).getD (.lit 0)).ev ρ = _
  rw [← List.getD_eq_getElem?_getD, List.getD_eq_getElem?_getD (l := ps), List.getElem?_eq_getElem hi]
  rfl
theorem nums_ns {t : Nat} {o : Out} {ps : List Nat} {ρ : Env} (h : E.beqs ((List.range (23 + 6 * t)).map (famS (clA t) o)) ((List.range (23 + 6 * t)).map (sndV ps)) = true) : famNs (clA t) o ρ = (List.range (23 + 6 * t)).map fun v => (sndV ps v).ev ρ := by
  have := congrArg (E.evs ρ) (E.beqs_eq _ _ h)
  rw [range_evs, range_evs] at this
  exact this
theorem body_at {t k : Nat} {p : Fs} {cs : List E} {o : Out} {st : E} {ρ : Env} (hp : SX.FsOk ρ p) (h : sndBody t p k cs ((List.range (23 + 6 * t)).map (famS (clA t) o)) st = true) :
    let ps := (List.range t).filter fun i => decide ((masE i).ev ρ ≠ 0)
    k = ps.length ∧ cs = ps.flatMap (sndE st) ∧ famNs (clA t) o ρ = (List.range (23 + 6 * t)).map fun v => (sndV ps v).ev ρ := by
  unfold sndBody at h
  simp only [Bool.and_eq_true] at h
  obtain ⟨⟨⟨h1, h2⟩, h3⟩, h4⟩ := h
  rw [filt_ok hp h1] at h2 h3 h4
  rw [beq_iff, decide_eq_true_eq] at h2
  exact ⟨h2, E.beqs_eq _ _ h3, nums_ns h4⟩
section
variable {F : Nat → Nat → List Int → Int} {t : Nat} {ms : List Int}
theorem snd_at (hf : F 92 = nm92 92) (hf1 : F 93 = nm92 93) (h1 : 1 ≤ t) (h8 : t ≤ 8) :
    F 92 1 [codL ((t : Int) :: ms)] = ((psOf t ms).length : Int) ∧ F 92 0 [codL ((t : Int) :: ms)] = codL ((t : Int) :: nsOf t ms) ∧
      ∀ i f : Nat, f < 22 → i < (psOf t ms).length → F 93 f [codL ((t : Int) :: ms), (i : Int)] = ((sndE (stOf ms) ((psOf t ms).getD i 0)).getD f (.lit 0)).ev (rS ms) := by
  obtain ⟨o, p1, p2, _⟩ := MethS.pick_good (m := clSend) (a := clA t) but92 ms (gE_all h1 h8)
  obtain ⟨p', hp', hc⟩ := pick_C (sk_all h1 h8) (fsOk_nil.2 trivial) p1
  have hfam := fam_at h1 h8
  unfold sndChk at hc
  split at hc
  rotate_left
  · cases hc
  rename_i k es cs hpa
  have hN : ∀ j, F 92 j [codL ((t : Int) :: ms)] = methVS nm90 (clA t) clSend t (clSend.m.tree callK (clA t)) j ms := fun j => by
    rw [hf, show nm92 92 = methNS clK nm90 callK clSend from if_pos rfl]
    have := methNS_at (K := clK) (G := nm90) (m := clSend) (call := callK) (ns := ms) (xs := []) hfam j
    rwa [List.append_nil] at this
  have hC : ∀ f i : Nat, F 93 f [codL ((t : Int) :: ms), (i : Int)] = methCS nm90 clSend (clSend.m.tree callK (clA t)) (i * 22 + f) ms := fun f i => by
    rw [hf1, show nm92 93 = methNC clK nm90 callK clSend from (if_neg (by decide)).trans (if_pos rfl)]
    have := methNC_at (K := clK) (G := nm90) (m := clSend) (call := callK) (ns := ms) (xs := []) hfam f i
    rwa [List.append_nil] at this
  have e1 : F 92 1 [codL ((t : Int) :: ms)] = (k : Int) := by
    rw [hN]; unfold methVS
    simp only [p1, hpa, if_neg (show (1 : Nat) ≠ 0 by omega), if_true]
  have e0 : F 92 0 [codL ((t : Int) :: ms)] = codL ((t : Int) :: famNs (clA t) o (rS ms)) := by
    rw [hN]; unfold methVS
    simp only [p1, if_true]
  have eC : ∀ f i : Nat, F 93 f [codL ((t : Int) :: ms), (i : Int)] = (E.evs (rS ms) cs).getD (i * 22 + f) 0 := fun f i => by
    rw [hC]; unfold methCS
    simp only [p1, hpa]
  -- a body
  have fin : ∀ st : E, sndBody t p' k cs ((List.range (23 + 6 * t)).map (famS (clA t) o)) st = true → (samA.ev (rS ms) ≠ 0 ∨ ltS.ev (rS ms) ≠ 0) → st = stOf ms → _ := fun st hb hc' hst => by
    obtain ⟨b1, b2, b3⟩ := body_at hp' hb
    have hps : psOf t ms = (List.range t).filter fun i => decide ((masE i).ev (rS ms) ≠ 0) := by unfold psOf; rw [if_pos hc']
    have hns : nsOf t ms = famNs (clA t) o (rS ms) := by unfold nsOf; rw [hps, b3]
    refine (⟨?_, ?_, fun i f hf' hi => ?_⟩ : F 92 1 [codL ((t : Int) :: ms)] = ((psOf t ms).length : Int) ∧ F 92 0 [codL ((t : Int) :: ms)] = codL ((t : Int) :: nsOf t ms) ∧
      ∀ i f : Nat, f < 22 → i < (psOf t ms).length → F 93 f [codL ((t : Int) :: ms), (i : Int)] = ((sndE (stOf ms) ((psOf t ms).getD i 0)).getD f (.lit 0)).ev (rS ms))
    · rw [e1, hps, b1]
    · rw [e0, hns]
    · rw [eC, b2, ← hps, ← hst]
      exact flat_ev hi hf'
  split at hc
  · rename_i hq
    have hs := (hasQ_ok hp' hq).2 rfl
    exact fin _ hc (.inl hs) (by unfold stOf; rw [if_pos hs])
  · rename_i hq
    have hs : ¬ samA.ev (rS ms) ≠ 0 := fun h => Bool.noConfusion ((hasQ_ok hp' hq).1 h)
    split at hc
    · rename_i hl
      have hl := (hasQ_ok hp' hl).2 rfl
      exact fin _ hc (.inr hl) (by unfold stOf; rw [if_neg hs])
    · rename_i hl
      have hl : ¬ ltS.ev (rS ms) ≠ 0 := fun h => Bool.noConfusion ((hasQ_ok hp' hl).1 h)
      have hps : psOf t ms = [] := by unfold psOf; rw [if_neg (by rintro (h | h); exact hs h; exact hl h)]
      rw [Bool.and_eq_true, beq_iff, decide_eq_true_eq] at hc
      have hns : nsOf t ms = famNs (clA t) o (rS ms) := by unfold nsOf; rw [hps, nums_ns hc.2]
      refine ⟨by rw [e1, hps, hc.1]; rfl, by rw [e0, hns], fun i f _ hi => ?_⟩
      rw [hps] at hi; cases hi
    · cases hc
  · cases hc
/-! ### The numbers behind it -/
theorem ns_get {v : Nat} (hv : v < 23 + 6 * t) : (nsOf t ms).getD v 0 = (sndV (psOf t ms) v).ev (rS ms) := getD_range hv _
theorem ns_len : (nsOf t ms).length = 23 + 6 * t := by unfold nsOf; rw [List.length_map, List.length_range]
theorem ns_low {v : Nat} (hv : v < 23) : (nsOf t ms).getD v 0 = ms.getD v 0 := by
  rw [ns_get (by omega)]
  unfold sndV
  rw [if_neg (by omega)]
  rfl
theorem ns_state {i : Nat} (hi : i < t) : (nsOf t ms).getD (stV i 0) 0 = ms.getD (stV i 0) 0 := by
  rw [ns_get (by unfold stV; omega)]
  unfold sndV
  rw [if_neg (by unfold stV; omega)]
  rfl
theorem ns_seq {i : Nat} (hi : i < t) (hp : i ∈ psOf t ms) : (nsOf t ms).getD (stV i 1) 0 = (seqE i).ev (rS ms) := by
  rw [ns_get (by unfold stV; omega)]
  have e : (stV i 1 - 23) / 6 = i := by unfold stV; omega
  unfold sndV
  rw [e, if_pos ⟨by unfold stV; omega, by unfold stV; omega, by simpa using hp⟩]
theorem near_ns : ∀ e : E, e.within 23 0 = true → e.ev (rS (nsOf t ms)) = e.ev (rS ms) := fun e he =>
  E.ev_near (n := 23) (m := 0) ⟨fun i hi => ns_low hi, fun f hf => by omega⟩ e he
theorem mas_ns {i : Nat} (hi : i < t) : (masE i).ev (rS (nsOf t ms)) = (masE i).ev (rS ms) := by
  have h : (E.var (stV i 0)).ev (rS (nsOf t ms)) = (E.var (stV i 0)).ev (rS ms) := ns_state hi
  unfold masE
  simp only [E.ev] at h ⊢
  rw [h]
theorem samA_in : samA.within 23 0 = true := by decide
theorem ltS_in : ltS.within 23 0 = true := by decide
theorem ps_ns : psOf t (nsOf t ms) = psOf t ms := by
  unfold psOf
  rw [near_ns samA samA_in, near_ns ltS ltS_in]
  split
  · refine List.filter_congr fun i hi => ?_
    rw [mas_ns (List.mem_range.1 hi)]
  · rfl
theorem st_ns : stOf (nsOf t ms) = stOf ms := by
  unfold stOf
  rw [near_ns samA samA_in]
theorem ps_mem {i : Nat} (h : i ∈ psOf t ms) : i < t ∧ ms.getD (stV i 0) 0 = 6 ∧ (samA.ev (rS ms) ≠ 0 ∨ ltS.ev (rS ms) ≠ 0) := by
  unfold psOf at h
  split at h
  · rename_i hc
    obtain ⟨h1, h2⟩ := List.mem_filter.1 h
    have h2 := of_decide_eq_true h2
    exact ⟨List.mem_range.1 h1, (eqk_ev (ρ := rS ms) .i64 (.var (stV i 0)) (.lit 6)).1 h2, hc⟩
  · cases h
end
end Go.Proofs.YtfcpmapfhgibpaaDoor
namespace Go.Proofs.YtfcpmapfhgibpaaDoor
open Go Go.RowKit SX Frm Frn
set_option linter.unusedVariables false
set_option linter.unusedSimpArgs false
set_option maxRecDepth 100000

def sX1 (x : E) : E := .app 92 0 [x]
def sX2 (x : E) : E := .app 92 0 [sX1 x]
def sN (x : E) : E := .app 92 1 [x]
def ca (x : E) (i f : Nat) : E := .app 93 f [x, litN i]
def msgK : List IntKind := [.i64, .i64, .i64, .i64, .i64, .u64, .i64, .i64, .i64, .i64, .i64, .u64, .i64, .i64, .i64, .i64, .i64, .i64, .i64, .u64, .i64, .i64]
def isN (e : E) (n : Int) : E × Bool := (eq0 e (.lit n), true)
def rg (lo hi : Int) (e : E) : Fs := [(lt0 e (.lit lo), false), (lt0 (.lit hi) e, false)]
/-- The second Send returns as many messages. -/
def cntRu (x : E) (k : Nat) : Rule := ⟨[oneF (okX x), isN (sN x) (Int.ofNat k)], [isN (sN (sX1 x)) (Int.ofNat k)]⟩
def eqA (x : E) (i f : Nat) : E := .bin .eq (msgK.getD f .i64) (ca (sX1 x) i f) (ca x i f)
def bandL : List E → E
  | [] => .lit 1
  | [a] => a
  | a :: l => .bin .band .i64 a (bandL l)
/-- But for its number, message i is the same again. -/
def eqsB (x : E) (i : Nat) : E := bandL ([0, 1, 2, 3, 4, 5, 6, 8].map (eqA x i) ++ .bin .band .i64 (eqA x i 9) (eqA x i 10) :: [11, 12, 13, 14, 15, 16, 17, 18, 19, 20, 21].map (eqA x i))
/-- What is known of message i. -/
def msgCon (x : E) (i : Nat) : Fs :=
  (eqsB x i, true) :: (eq0 (ca (sX1 x) i 7) (.bin .rem .i64 (.bin .add .i64 (ca x i 7) (.lit 1)) (.lit 65536)), true) :: (eq0 (ca x i 6) (ca x i 0), true) :: [isN (ca x i 1) 11] ++ [3, 4, 8, 9, 10, 11, 12, 13, 21].map (fun f => isN (ca x i f) 0) ++ rg 1 8 (ca x i 0) ++ rg 0 255 (ca x i 2) ++ rg 0 65535 (ca x i 7) ++ rg 0 255 (ca x i 14) ++ rg 0 255 (ca x i 15) ++ rg 0 255 (ca x i 16) ++ rg 0 65535 (ca x i 17) ++ rg 0 255 (ca x i 18) ++ rg 0 65535 (ca x i 20)
  ++ rg 1 8 (ca x i 6) ++ [isN (.app 94 0 [sX2 x, ca x i 0]) 6, (.bin .eq .u64 (ca x i 19) (parE 5 (sX2 x)), true)]
def msgRu (x : E) (k i : Nat) : Rule := ⟨[oneF (okX x), isN (sN x) (Int.ofNat k)], msgCon x i⟩
/-! ### They are right -/
section
variable {ρ : Env}
theorem isN_ok {e : E} {n : Int} (h : e.ev ρ = n) : SX.FsOk ρ [isN e n] := eqF_cons.2 ⟨h, fun _ h => by cases h⟩
theorem rg_ok {lo hi : Int} {e : E} (h : lo ≤ e.ev ρ ∧ e.ev ρ ≤ hi) : SX.FsOk ρ (rg lo hi e) := by
  unfold rg
  rw [fsOk_cons, fsOk_cons, lt0_ev, lt0_ev, lit_ev, lit_ev]
  exact ⟨⟨fun h' => by omega, fun h => Bool.noConfusion h⟩, ⟨fun h' => by omega, fun h => Bool.noConfusion h⟩, fun _ h => by cases h⟩
theorem bandL_ev : ∀ l : List E, (∀ e ∈ l, e.ev ρ ≠ 0) → (bandL l).ev ρ ≠ 0
  | [], _ => by show (1 : Int) ≠ 0; decide
  | [a], h => h a (List.mem_cons_self ..)
  | a :: b :: l, h => by
    have h2 := bandL_ev (b :: l) fun e he => h e (List.mem_cons_of_mem _ he)
    show (if _ ∧ _ then (1 : Int) else 0) ≠ 0
    rw [if_pos ⟨h a (List.mem_cons_self ..), h2⟩]
    decide
theorem samV_ev : ∀ l : List Nat, (∀ j ∈ l, ρ.v (11 + j) = (ownV.getD j (.lit 0)).ev ρ) → (samV l).ev ρ ≠ 0
  | [], _ => by show (1 : Int) ≠ 0; decide
  | [j], hl => (eqk_ev _ _ _).2 (hl j (List.mem_cons_self ..))
  | j :: i :: l, hl => by
    have h1 := (eqk_ev (ρ := ρ) (kV.getD j .i64) (.var (11 + j)) (ownV.getD j (.lit 0))).2 (hl j (List.mem_cons_self ..))
    have h2 := samV_ev (i :: l) fun k hk => hl k (List.mem_cons_of_mem _ hk)
    show (if _ ∧ _ then (1 : Int) else 0) ≠ 0
    rw [if_pos ⟨h1, h2⟩]
    decide
end
section
variable {t : Nat} {ms : List Int}
theorem inF_at (hf : ∀ p ∈ clF t, (p.1.ev (envT FN ms) ≠ 0 ↔ p.2 = true)) {lo hi : Int} {i : Nat} (hm : ∀ p ∈ inF lo hi i, p ∈ clF t) : lo ≤ ms.getD i 0 ∧ ms.getD i 0 ≤ hi := by
  have a := hf _ (hm (ltF (.var i) (.lit lo), false) (List.mem_cons_self ..))
  have b := hf _ (hm (ltF (.lit hi) (.var i), false) (List.mem_cons_of_mem _ (List.mem_cons_self ..)))
  have a' := (lt0_ev (ρ := envT FN ms) (.var i) (.lit lo)).2
  have b' := (lt0_ev (ρ := envT FN ms) (.lit hi) (.var i)).2
  have e : (E.var i).ev (envT FN ms) = ms.getD i 0 := rfl
  rw [e, lit_ev] at a' b'
  have a1 : ¬ ms.getD i 0 < lo := fun h => Bool.noConfusion (a.1 (a' h))
  have b1 : ¬ hi < ms.getD i 0 := fun h => Bool.noConfusion (b.1 (b' h))
  omega
theorem confR_in {p : E × Bool} (h : p ∈ confR) : p ∈ clF t := by
  unfold clF
  simp only [List.mem_append]
  exact .inl (.inl (.inl (.inl h)))
theorem seq_in {i : Nat} (hi : i < t) {p : E × Bool} (h : p ∈ inF 0 65535 (stV i 1)) : p ∈ clF t := by
  unfold clF
  refine List.mem_append.2 (.inr (List.mem_flatMap.2 ⟨i, List.mem_range.2 hi, ?_⟩))
  exact List.mem_append.2 (.inl (List.mem_append.2 (.inl h)))
theorem conf_in (hf : ∀ p ∈ clF t, (p.1.ev (envT FN ms) ≠ 0 ↔ p.2 = true)) : (0 ≤ ms.getD 1 0 ∧ ms.getD 1 0 ≤ 255) ∧ (0 ≤ ms.getD 2 0 ∧ ms.getD 2 0 ≤ 255) ∧ (0 ≤ ms.getD 3 0 ∧ ms.getD 3 0 ≤ 255) ∧ (0 ≤ ms.getD 4 0 ∧ ms.getD 4 0 ≤ 65535) ∧ (0 ≤ ms.getD 5 0 ∧ ms.getD 5 0 ≤ 255) ∧ (0 ≤ ms.getD 6 0 ∧ ms.getD 6 0 ≤ 255) := by
  refine ⟨inF_at hf fun p hp => confR_in ?_, inF_at hf fun p hp => confR_in ?_, inF_at hf fun p hp => confR_in ?_, inF_at hf fun p hp => confR_in ?_, inF_at hf fun p hp => confR_in ?_, inF_at hf fun p hp => confR_in ?_⟩ <;> (unfold confR; simp only [List.mem_append]; simp only [hp, true_or, or_true])
/-- What a message tells. -/
theorem msg_vals {X : Int} {cs : List Int} (hg : Good X cs) : ∃ (t : Nat) (ms : List Int), X = codL ((t : Int) :: ms) ∧ 1 ≤ t ∧ t ≤ 8 ∧ ∀ p, p ∈ psOf t ms → (0 ≤ ms.getD 6 0 ∧ ms.getD 6 0 ≤ 255) ∧ (0 ≤ ms.getD (stV p 1) 0 ∧ ms.getD (stV p 1) 0 ≤ 65535) ∧
    (0 ≤ ms.getD 11 0 ∧ ms.getD 11 0 ≤ 255) ∧ (0 ≤ ms.getD 12 0 ∧ ms.getD 12 0 ≤ 255) ∧ (0 ≤ ms.getD 13 0 ∧ ms.getD 13 0 ≤ 255) ∧ (0 ≤ ms.getD 14 0 ∧ ms.getD 14 0 ≤ 65535) ∧ (0 ≤ ms.getD 15 0 ∧ ms.getD 15 0 ≤ 255) ∧ (0 ≤ (stOf ms).ev (rS ms) ∧ (stOf ms).ev (rS ms) ≤ 65535) := by
  obtain ⟨t, ms, rfl, h1, h8, hlen, hf, _⟩ := hg
  refine ⟨t, ms, rfl, h1, h8, fun p hp => ?_⟩
  obtain ⟨hpt, hp6, hps⟩ := ps_mem hp
  obtain ⟨c1, c2, c3, c4, c5, c6⟩ := conf_in hf
  refine ⟨c6, inF_at hf fun q hq => seq_in hpt hq, ?_⟩
  have hfol := good_follow (⟨t, ms, rfl, h1, h8, hlen, hf, rfl⟩ : Good (codL ((t : Int) :: ms)) (ms.take 6))
  have hpar : ∀ j, j < 11 → ((List.range 11).map fun j => parX (codL ((t : Int) :: ms)) j).getD j 0 = ms.getD (11 + j) 0 := fun j hj => by
    rw [getD_range hj]
    unfold parX
    simp only [decL_cod]
  have ht6 : ∀ j, j < 6 → (ms.take 6).getD j 0 = ms.getD j 0 := fun j hj => by
    rw [List.getD_eq_getElem?_getD, List.getElem?_take_of_lt hj, ← List.getD_eq_getElem?_getD]
  rw [followN_iff] at hfol
  rcases hfol with hfol | ⟨hw, _⟩
  · have key : ∀ j, j < 11 → ms.getD (11 + j) 0 = (ownL (ms.take 6)).getD j 0 := fun j hj => by rw [← hpar j hj, hfol]
    have k0 : ms.getD 11 0 = ms.getD 1 0 := (key 0 (by decide)).trans (ht6 1 (by decide))
    have k1 : ms.getD 12 0 = ms.getD 2 0 := (key 1 (by decide)).trans (ht6 2 (by decide))
    have k2 : ms.getD 13 0 = ms.getD 3 0 := (key 2 (by decide)).trans (ht6 3 (by decide))
    have k3 : ms.getD 14 0 = ms.getD 4 0 := (key 3 (by decide)).trans (ht6 4 (by decide))
    have k4 : ms.getD 15 0 = ms.getD 5 0 := (key 4 (by decide)).trans (ht6 5 (by decide))
    have hsam : samA.ev (rS ms) ≠ 0 := samV_ev (List.range 11) fun j hj => by
      have hj := List.mem_range.1 hj
      show ms.getD (11 + j) 0 = _
      rw [key j hj]
      match j, hj with
      | 0, _ => exact ht6 1 (by decide)
      | 1, _ => exact ht6 2 (by decide)
      | 2, _ => exact ht6 3 (by decide)
      | 3, _ => exact ht6 4 (by decide)
      | 4, _ => exact ht6 5 (by decide)
      | 5, _ => exact ht6 0 (by decide)
      | 6, _ => rfl
      | 7, _ => exact ht6 0 (by decide)
      | 8, _ => rfl
      | 9, _ => exact ht6 0 (by decide)
      | 10, _ => rfl
    refine ⟨by rw [k0]; exact c1, by rw [k1]; exact c2, by rw [k2]; exact c3, by rw [k3]; exact c4, by rw [k4]; exact c5, ?_⟩
    unfold stOf
    rw [if_pos hsam]
    exact ⟨by show (0 : Int) ≤ 0; omega, by show (0 : Int) ≤ 65535; omega⟩
  · have w1 := hw.p1
    have w2 := hw.cls
    have w3 := hw.acc
    have w4 := hw.vr
    have w5 := hw.p2
    have w6 := hw.steps
    rw [hpar 0 (by decide)] at w1
    rw [hpar 1 (by decide)] at w2
    rw [hpar 2 (by decide)] at w3
    rw [hpar 3 (by decide)] at w4
    rw [hpar 4 (by decide)] at w5
    rw [hpar 6 (by decide)] at w6
    refine ⟨w1, w2, w3, w4, w5, ?_⟩
    unfold stOf
    split
    · exact ⟨by show (0 : Int) ≤ 0; omega, by show (0 : Int) ≤ 65535; omega⟩
    · rename_i hs
      have hl : ltS.ev (rS ms) ≠ 0 := hps.resolve_left hs
      have w6 : 0 ≤ ms.getD 17 0 ∧ ms.getD 17 0 ≤ 65535 := w6
      have e : stpE.ev (rS ms) = ms.getD 17 0 + 1 := by
        show IntKind.i64.wrap (ms.getD 17 0 + 1) = _
        exact wrap_fit ⟨by have : IntKind.i64.min = -9223372036854775808 := by decide
                           omega, by have : IntKind.i64.max = 9223372036854775807 := by decide
                                     omega⟩
      have hl2 : stpE.ev (rS ms) < 32 := (lt0_ev (ρ := rS ms) stpE (.lit 32)).1 hl
      rw [e] at hl2 ⊢
      omega
theorem sndE_in {st : E} (hs : st.within 23 0 = true) (p : Nat) : ∀ f, f < 22 → f ≠ 7 → ((sndE st p).getD f (.lit 0)).within 23 0 = true
  | 0, _, _ => rfl | 1, _, _ => rfl | 2, _, _ => rfl | 3, _, _ => rfl | 4, _, _ => rfl | 5, _, _ => rfl | 6, _, _ => rfl | 7, _, h => absurd rfl h | 8, _, _ => rfl | 9, _, _ => rfl | 10, _, _ => rfl
  | 11, _, _ => rfl | 12, _, _ => rfl | 13, _, _ => rfl | 14, _, _ => rfl | 15, _, _ => rfl | 16, _, _ => rfl | 17, _, _ => rfl | 18, _, _ => rfl | 19, _, _ => rfl | 20, _, _ => hs | 21, _, _ => rfl
  | n + 22, h, _ => absurd h (by omega)
theorem stOf_in : (stOf ms).within 23 0 = true := by
  unfold stOf
  split <;> rfl
end
section
variable {ρ : Env}
theorem cntRu_ok (h : Law ρ.fn) (x : E) (k : Nat) : RuleOk ρ (cntRu x k) := fun hp => by
  obtain ⟨hok, hp⟩ := oneF_cons.1 hp
  obtain ⟨hn, _⟩ := eqF_cons.1 hp
  obtain ⟨t, ms, hX, h1, h8, _⟩ := msg_vals ((okX_ev h x).1 hok)
  obtain ⟨s1, s0, _⟩ := snd_at (F := ρ.fn) (ms := ms) h.top.e92 h.top.e93 h1 h8
  obtain ⟨r1, _, _⟩ := snd_at (F := ρ.fn) (ms := nsOf t ms) h.top.e92 h.top.e93 h1 h8
  rw [← hX] at s0 s1
  refine isN_ok ?_
  show ρ.fn 92 1 [ρ.fn 92 0 [x.ev ρ]] = _
  rw [s0, r1, ps_ns, ← s1]
  exact hn
theorem msgRu_ok (h : Law ρ.fn) (x : E) {k i : Nat} (hik : i < k) : RuleOk ρ (msgRu x k i) := fun hp => by
  obtain ⟨hok, hp⟩ := oneF_cons.1 hp
  obtain ⟨hn, _⟩ := eqF_cons.1 hp
  obtain ⟨t, ms, hX, h1, h8, hv⟩ := msg_vals ((okX_ev h x).1 hok)
  obtain ⟨s1, s0, sc⟩ := snd_at (F := ρ.fn) (ms := ms) h.top.e92 h.top.e93 h1 h8
  obtain ⟨r1, r0, rc⟩ := snd_at (F := ρ.fn) (ms := nsOf t ms) h.top.e92 h.top.e93 h1 h8
  rw [ps_ns, st_ns] at rc
  rw [← hX] at s0 s1 sc
  have hn : ρ.fn 92 1 [x.ev ρ] = (k : Int) := hn
  have hk : (psOf t ms).length = k := by
    have := s1.symm.trans hn
    omega
  rw [hk] at sc rc
  generalize hpp : (psOf t ms).getD i 0 = p at *
  have hpm : p ∈ psOf t ms := by
    rw [← hpp, List.getD_eq_getElem?_getD, List.getElem?_eq_getElem (by omega)]
    exact List.getElem_mem _
  obtain ⟨hpt, hp6, _⟩ := ps_mem hpm
  obtain ⟨v6, vq, v11, v12, v13, v14, v15, vs⟩ := hv p hpm
  have hc : ∀ f, f < 22 → (ca x i f).ev ρ = ((sndE (stOf ms) p).getD f (.lit 0)).ev (rS ms) := fun f hf => by
    have := sc i f hf hik
    rw [hpp] at this
    exact this
  have hX1 : (sX1 x).ev ρ = codL ((t : Int) :: nsOf t ms) := s0
  have hX2 : (sX2 x).ev ρ = codL ((t : Int) :: nsOf t (nsOf t ms)) := by
    show ρ.fn 92 0 [(sX1 x).ev ρ] = _
    rw [hX1]; exact r0
  have hc1 : ∀ f, f < 22 → (ca (sX1 x) i f).ev ρ = ((sndE (stOf ms) p).getD f (.lit 0)).ev (rS (nsOf t ms)) := fun f hf => by
    have := rc i f hf hik
    rw [hpp] at this
    show ρ.fn 93 f [(sX1 x).ev ρ, (i : Int)] = _
    rw [hX1]; exact this
  have he : ∀ f, f < 22 → f ≠ 7 → (eqA x i f).ev ρ ≠ 0 := fun f hf h7 => (eqk_ev _ _ _).2 (by
    rw [hc f hf, hc1 f hf]
    exact near_ns _ (sndE_in stOf_in p f hf h7))
  have c0 : (ca x i 0).ev ρ = (p : Int) + 1 := (hc 0 (by decide)).trans (by show ((p + 1 : Nat) : Int) = _; omega)
  have c6 : (ca x i 6).ev ρ = (p : Int) + 1 := (hc 6 (by decide)).trans (by show ((p + 1 : Nat) : Int) = _; omega)
  have c7 : (ca x i 7).ev ρ = ms.getD (stV p 1) 0 := hc 7 (by decide)
  show SX.FsOk ρ (msgCon x i)
  unfold msgCon
  refine SX.fsOk_app (SX.fsOk_app (SX.fsOk_app (SX.fsOk_app (SX.fsOk_app (SX.fsOk_app (SX.fsOk_app (SX.fsOk_app (SX.fsOk_app (SX.fsOk_app (SX.fsOk_app (SX.fsOk_app ?_ ?_) ?_) ?_) ?_) ?_) ?_) ?_) ?_) ?_) ?_) ?_) ?_
  · refine fsOk_cons.2 ⟨⟨fun _ => rfl, fun _ => ?_⟩, eqF_cons.2 ⟨?_, eqF_cons.2 ⟨c6.trans c0.symm, isN_ok (hc 1 (by decide))⟩⟩⟩
    · refine bandL_ev _ fun e hm => ?_
      rcases List.mem_append.1 hm with hm | hm
      · obtain ⟨f, hf, rfl⟩ := List.mem_map.1 hm
        simp only [List.mem_cons, List.not_mem_nil, or_false] at hf
        exact he f (by omega) (by omega)
      · rcases List.mem_cons.1 hm with rfl | hm
        · show (if _ ∧ _ then (1 : Int) else 0) ≠ 0
          rw [if_pos ⟨he 9 (by decide) (by decide), he 10 (by decide) (by decide)⟩]
          decide
        · obtain ⟨f, hf, rfl⟩ := List.mem_map.1 hm
          simp only [List.mem_cons, List.not_mem_nil, or_false] at hf
          exact he f (by omega) (by omega)
    · rw [hc1 7 (by decide)]
      show (nsOf t ms).getD (stV p 1) 0 = _
      rw [ns_seq hpt hpm]
      have hb : ∀ (a b : E) (ρ' : Env), a.ev ρ' = b.ev ρ → (E.bin .rem .i64 (.bin .add .i64 a (.lit 1)) (.lit 65536)).ev ρ' = (E.bin .rem .i64 (.bin .add .i64 b (.lit 1)) (.lit 65536)).ev ρ := fun a b ρ' hab => by
        simp only [E.ev, hab]
      exact hb (.var (stV p 1)) (ca x i 7) (rS ms) c7.symm
  · intro q hq
    obtain ⟨f, hf, rfl⟩ := List.mem_map.1 hq
    refine isN_ok ?_ _ (List.mem_singleton.2 rfl)
    simp only [List.mem_cons, List.not_mem_nil, or_false] at hf
    rcases hf with rfl | rfl | rfl | rfl | rfl | rfl | rfl | rfl | rfl <;> exact hc _ (by decide)
  · exact rg_ok (by rw [c0]; omega)
  · exact rg_ok (by rw [hc 2 (by decide)]; exact v6)
  · exact rg_ok (by rw [c7]; exact vq)
  · exact rg_ok (by rw [hc 14 (by decide)]; exact v11)
  · exact rg_ok (by rw [hc 15 (by decide)]; exact v12)
  · exact rg_ok (by rw [hc 16 (by decide)]; exact v13)
  · exact rg_ok (by rw [hc 17 (by decide)]; exact v14)
  · exact rg_ok (by rw [hc 18 (by decide)]; exact v15)
  · exact rg_ok (by rw [hc 20 (by decide)]; exact vs)
  · exact rg_ok (by rw [c6]; omega)
  · refine fsOk_cons.2 ⟨?_, fsOk_cons.2 ⟨⟨fun _ => rfl, fun _ => (eqk_ev _ _ _).2 ?_⟩, fun _ h => by cases h⟩⟩
    · refine ⟨fun _ => rfl, fun _ => (eq0_ev _ _).2 ?_⟩
      show ρ.fn 94 0 [(sX2 x).ev ρ, (ca x i 0).ev ρ] = 6
      rw [h.top.e94, hX2, c0]
      show stX (codL ((t : Int) :: nsOf t (nsOf t ms))) ((p : Int) + 1) = 6
      rw [stX_cod, if_pos (by omega), show ((p : Int) + 1).toNat - 1 = p by omega, ns_state hpt, ns_state hpt]
      exact hp6
    · rw [hc 19 (by decide), parE_ev h, hX2]
      show ms.getD 16 0 = parX _ 5
      unfold parX
      simp only [decL_cod]
      rw [ns_low (by decide), ns_low (by decide)]
end
end Go.Proofs.YtfcpmapfhgibpaaDoor
