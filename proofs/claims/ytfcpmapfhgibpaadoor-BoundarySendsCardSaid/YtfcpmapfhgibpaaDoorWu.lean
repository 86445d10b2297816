/- A clock's methods: what they call; rules. -/
import Derived.Test.YtfcpmapfhgibpaaDoorWs
import Derived.Test.YtfcpmapfhgibpaaDoorWt
namespace Go.Proofs.YtfcpmapfhgibpaaDoor
open Go Go.RowKit SX Frm Frn
set_option linter.unusedVariables false

def spC : SpcT := orT (spMeth 3 exSync) (orT (spMeth 3 exFoll) (orT (spMeth 3 exReq) (orT (spMeth 3 exResp) (orT (spMeth 3 exOff) (orT (ofSpc (orSpec spNext (orSpec spDecided (orSpec spExNew (orSpec (sumSpec sumsK) (orSpec spDecX spMast)))))) (orT spOf spM))))))
noncomputable def callK : Caller := callH Tryd.prog [] okF spC noKeep 80 30
/-! ### Which facts a method starts with -/
def isApp (f : Nat) (p : E × Bool) : Bool := match p.1 with
  | .bin .eq _ (.app g _ _) _ => Nat.beq g f
  | _ => false
/-- The range of variable i, or a bound of it. -/
def isVarF (q : Nat → Bool) (p : E × Bool) : Bool := match p.1 with
  | .bin .zrng _ (.var i) _ => q i
  | .bin .lt _ (.var i) _ => q i
  | .bin .lt _ _ (.var i) => q i
  | _ => false
/-- Number j of a port (of nv numbers). -/
def isStV (nv j i : Nat) : Bool := Nat.ble 23 i && Nat.blt i nv && Nat.beq ((i - 23) % 6) j
def selAnn (nv : Nat) (p : E × Bool) : Bool := isApp 57 p || isVarF (fun i => Nat.beq i 0 || (Nat.blt nv i && Nat.blt i (nv + 22))) p
def selSts (nv : Nat) (p : E × Bool) : Bool := isApp 59 p
def selReq (nv : Nat) (p : E × Bool) : Bool := isVarF (isStV nv 2) p
def selDec (nv : Nat) (p : E × Bool) : Bool := isApp 57 p || isApp 59 p || isVarF (fun i => Nat.beq i 6) p
def selSend (nv : Nat) (p : E × Bool) : Bool := isVarF (isStV nv 1) p
def selNo (nv : Nat) (p : E × Bool) : Bool := false
def clAnn : Meth := ⟨21, 80, [i1, ptSh, i1], [i1], selAnn⟩
def clDec : MethS := ⟨⟨18, 82, [i1], [i1], selDec⟩, [.int .i64], 3, 0⟩
def clSync : Meth := ⟨22, 84, [i1, ptSh, i1], [i1], selSts⟩
def clReq : Meth := ⟨19, 86, [i1, i1], [ptSh, i1], selReq⟩
def clResp : Meth := ⟨23, 88, [i1, ptSh], [i1], selSts⟩
def clOff : Meth := ⟨20, 90, [], [i1, .one .bool], selNo⟩
def msgLk : List Lk := [.int .i64, .int .i64, .int .i64, .int .i64, .int .i64, .int .u64, .int .i64, .int .i64, .int .i64, .int .i64, .int .i64, .int .u64, .int .i64, .int .i64, .int .i64, .int .i64, .int .i64, .int .i64, .int .i64, .int .u64, .int .i64, .int .i64]
def clSend : MethS := ⟨⟨15, 92, [], [], selSend⟩, msgLk, 53, 23⟩
def clState : Meth := ⟨12, 94, [i1], [i1], selNo⟩
def clPar : Meth := ⟨13, 96, [], [dsSh], selNo⟩
def clA (n : Nat) : Fam := ⟨clBx n, clF n, 23 + 6 * n⟩
end Go.Proofs.YtfcpmapfhgibpaaDoor
namespace Go.Proofs.YtfcpmapfhgibpaaDoor
open Go Go.RowKit SX Frm Frn
set_option linter.unusedVariables false
set_option linter.unusedSimpArgs false
set_option maxRecDepth 100000

/-! ### The plain law -/
theorem stsN_iff {l : List Int} : stsN l = 1 ↔ StsOk l := by
  unfold stsN
  split
  · rename_i h; exact ⟨fun _ => h, fun _ => rfl⟩
  · rename_i h; exact ⟨fun e => absurd e (by decide), fun e => absurd e h⟩
theorem wrap20 {c : Int} (h : 1 ≤ c ∧ c ≤ 6) : IntKind.i64.wrap (20 + c) = 20 + c := wrap_fit ⟨by have : IntKind.i64.min = -9223372036854775808 := by decide
                                                                                                  omega, by have : IntKind.i64.max = 9223372036854775807 := by decide
                                                                                                            omega⟩
theorem code_step {s c : Int} (hs : 4 ≤ s ∧ s ≤ 9) (hc : 1 ≤ c ∧ c ≤ 6) (same : Bool) : 5 ≤ PortLaw.nxt s (20 + c) same ∧ PortLaw.nxt s (20 + c) same ≤ 9 ∧ (7 < PortLaw.nxt s (20 + c) same → c = 6) := by
  have h1 : s = 4 ∨ s = 5 ∨ s = 6 ∨ s = 7 ∨ s = 8 ∨ s = 9 := by omega
  have h2 : c = 1 ∨ c = 2 ∨ c = 3 ∨ c = 4 ∨ c = 5 ∨ c = 6 := by omega
  rcases h1 with rfl | rfl | rfl | rfl | rfl | rfl <;> rcases h2 with rfl | rfl | rfl | rfl | rfl | rfl <;> cases same <;> decide
theorem time_step (same : Bool) : PortLaw.nxt 4 7 same = 6 := by cases same <;> decide
theorem qual_step (same : Bool) : PortLaw.nxt 5 8 same = 6 := by cases same <;> decide
theorem dec_step {s m c h e t o : Int} (hs : 4 ≤ s ∧ s ≤ 9) (hc : 1 ≤ c ∧ c ≤ 6) : 4 ≤ decI1 [s, m, c, h, e, t, o] ∧ decI1 [s, m, c, h, e, t, o] ≤ 9 ∧ (7 < decI1 [s, m, c, h, e, t, o] → c = 6) := by
  unfold decI1
  rw [dec_ns, wrap20 hc]
  have hq : ∀ b, PortLaw.nxt 5 8 b = 6 := qual_step
  have ht : ∀ b, PortLaw.nxt 4 7 b = 6 := time_step
  obtain ⟨a1, a2, a3⟩ := code_step hs hc (decide (e ≠ 0))
  have e4 : ([s, m, c, h, e, t, o] : List Int).getD 4 0 = e := rfl
  rw [e4]
  by_cases c1 : h ≠ 0 ∨ s ≠ 4
  · rw [if_pos c1]
    by_cases c2 : PortLaw.nxt s (20 + c) (decide (e ≠ 0)) = 5
    · rw [if_pos c2, c2, hq]; omega
    · rw [if_neg c2]; omega
  · rw [if_neg c1]
    have h4 : s = 4 := by
      by_cases c3 : s = 4
      · exact c3
      · exact absurd (.inr c3) c1
    subst h4
    rw [ht]
    split <;> (split <;> omega)
/-- The states behind a decision. -/
theorem sts_dec {l cs : List Int} {f : Nat → Int} (h : StsOk l) (hc : ∀ i, i < l.length → 1 ≤ cs.getD i 0 ∧ cs.getD i 0 ≤ 6) (h2 : ∀ i j, i < l.length → j < l.length → j ≠ i → cs.getD i 0 = 6 → cs.getD j 0 ≠ 6)
    (hf : ∀ i, i < l.length → ∃ m h e t o, f i = decI1 [l.getD i 0, m, cs.getD i 0, h, e, t, o]) : StsOk ((List.range l.length).map f) := by
  have key : ∀ i, i < l.length → ((List.range l.length).map f).getD i 0 = f i := fun i hi => by
    rw [List.getD_eq_getElem?_getD, List.getElem?_map, List.getElem?_range hi]; rfl
  have hl : ((List.range l.length).map f).length = l.length := by simp
  refine ⟨fun i hi => ?_, fun i j hi hj ci cj => ?_⟩
  · rw [hl] at hi
    rw [key i hi]
    obtain ⟨m, hh, e, t, o, hfi⟩ := hf i hi
    rw [hfi]
    have := dec_step (m := m) (h := hh) (e := e) (t := t) (o := o) (h.rng i hi) (hc i hi)
    omega
  · rw [hl] at hi hj
    rw [key i hi] at ci
    rw [key j hj] at cj
    obtain ⟨m, hh, e, t, o, hfi⟩ := hf i hi
    obtain ⟨m', hh', e', t', o', hfj⟩ := hf j hj
    rw [hfi] at ci
    rw [hfj] at cj
    have a := (dec_step (h.rng i hi) (hc i hi)).2.2 ci
    have b := (dec_step (h.rng j hj) (hc j hj)).2.2 cj
    by_cases e : j = i
    · exact e.symm
    · exact absurd b (h2 i j hi hj e a)
theorem sync_step {s : Int} (h : s = 8 ∨ s = 9) : PortLaw.nxt s 9 false = 9 := by rcases h with rfl | rfl <;> decide
/-- One port that is Uncalibrated or Slave becomes Slave. -/
theorem sts_sync {l m : List Int} {i : Nat} (h : StsOk l) (hi : i < l.length) (h7 : 7 < l.getD i 0) (hm : m.length = l.length) (hmi : m.getD i 0 = 9) (hmj : ∀ j, j < l.length → j ≠ i → m.getD j 0 = l.getD j 0) : StsOk m := by
  refine ⟨fun j hj => ?_, fun j k hj hk cj ck => ?_⟩
  · rw [hm] at hj
    by_cases e : j = i
    · subst e; rw [hmi]; omega
    · rw [hmj j hj e]; exact h.rng j hj
  · rw [hm] at hj hk
    have a : ∀ j, j < l.length → 7 < m.getD j 0 → j = i := fun j hj c => by
      by_cases e : j = i
      · exact e
      · rw [hmj j hj e] at c
        exact h.one j i hj hi c h7
    rw [a j hj cj, a k hk ck]
/-! ### The rules -/
def rngP (k : IntKind) (i : Nat) : E × Bool := (.bin .zrng k (.var i) (.lit 0), true)
def msgKs : List IntKind := [.i64, .i64, .i64, .i64, .u64, .i64, .i64, .i64, .i64, .i64, .u64, .i64, .i64, .i64, .i64, .i64, .i64, .i64, .u64, .i64, .i64]
def rngPs : List IntKind → Nat → Fs
  | [], _ => []
  | k :: l, i => rngP k i :: rngPs l (i + 1)
/-- What is heard of: the arguments of Of, the message from variable v on, at port i. -/
def ofL (v i : Nat) : List E := ((List.range 21).map fun k => .var (v + k)) ++ [.var 0, litN (i + 1)]
def ofD (v i : Nat) : List E := [.var (v + 13), .var (v + 14), .var (v + 15), .var (v + 16), .var (v + 17), .var (v + 18), .var (v + 19), .var (v + 4), .var (v + 5), .var 0, litN (i + 1)]
def wellE (x : E) : E := eq0 (.app 57 0 [x, .var 0]) (.lit 1)
def recV (i : Nat) : E := .var (stV i 4)
/-- Port i hears the message from variable v on, at variable t. -/
def hearRu (v t i : Nat) : Rule := ⟨(eq0 (.var (v - 1)) (litN (i + 1)), true) :: (eq0 (.app 74 11 (ofL v i)) (.lit 0), true) :: (.bin .eq .u64 (.var (v + 18)) (.var 0), false) :: (wellE (recV i), true) :: rngP .u64 0 :: rngPs msgKs v, [(wellE (hearE (recV i) (ofD v i) (.var t)), true)]⟩
def rulesAnn (n : Nat) : List Rule := (List.range n).map fun i => hearRu (24 + 6 * n) (45 + 6 * n) i
/-- Port i, Uncalibrated or Slave (k), becomes Slave. -/
def syncRu (n k i : Nat) : Rule := ⟨[oneF (stsE n), (eq0 (.var (stV i 0)) (litN k), true)], [oneF (.app 59 0 ((List.range n).map fun j => bif Nat.beq j i then nextE (litN k) (.lit 9) (.lit 0) else .var (stV j 0)))]⟩
def rulesSync (n : Nat) : List Rule := (List.range n).flatMap fun i => [syncRu n 8 i, syncRu n 9 i]
def forgV (t i : Nat) : E := forgE (recV i) (.var t)
def decLx (n t : Nat) : List E := cdL mstQ (.var t) ((List.range n).map (forgV t))
def forgRu (t i : Nat) : Rule := ⟨[(lt0 (.var t) (.var 22), false), (wellE (recV i), true)], [(wellE (forgV t i), true)]⟩
def followRu (n t : Nat) : Rule := ⟨(List.range n).map fun i => (wellE (forgV t i), true), [oneF (.app 58 0 (mstQ ++ (List.range 11).map fun j => msE j (decLx n t)))]⟩
/-- The states behind a decision, of what is known (p); s: whether the parent stays. -/
def stsRu (n t : Nat) (p : Fs) (s : E) : Rule := ⟨p ++ [oneF (stsE n)], [oneF (.app 59 0 ((List.range n).map fun i => decE 1 [.var (stV i 0), .var (stV i 3), cdE i (decLx n t), bokE (forgV t i) (.var t), s, .var t, .var 10]))]⟩
def sameX (n t : Nat) : E := eq0 (.var 19) (msE 8 (decLx n t))
def gmX (n t : Nat) : E := .bin .eq .u64 (msE 5 (decLx n t)) (.var 16)
def sndX (n t : Nat) : E := .bin .eq .u64 (msE 7 (decLx n t)) (.var 18)
def rulesDec (n : Nat) : List Rule := ((List.range n).map fun i => forgRu (23 + 6 * n) i) ++ [followRu n (23 + 6 * n), stsRu n (23 + 6 * n) [(gmX n (23 + 6 * n), false)] (.lit 0), stsRu n (23 + 6 * n) [(gmX n (23 + 6 * n), true), (sndX n (23 + 6 * n), false)] (.lit 0), stsRu n (23 + 6 * n) [(gmX n (23 + 6 * n), true), (sndX n (23 + 6 * n), true)] (sameX n (23 + 6 * n))]
end Go.Proofs.YtfcpmapfhgibpaaDoor
namespace Go.Proofs.YtfcpmapfhgibpaaDoor
open Go Go.RowKit SX Frm Frn
set_option linter.unusedVariables false
set_option linter.unusedSimpArgs false

/-- The ways that begin with these turns are as they should be. -/
def MethS.part (kp : Nat) (rs : List Rule) (a : Fam) (m : MethS) : List Bool → T Out → Bool
  | b :: l, .br c t e => free2 m.m.name [c] && (match b with | true => m.part kp rs a l t | false => m.part kp rs a l e)
  | _, t => m.good kp rs a t
theorem MethS.part_all {kp : Nat} {rs : List Rule} {a : Fam} {m : MethS} : ∀ (d : Nat) (t : T Out), (∀ l : List Bool, l.length = d → m.part kp rs a l t = true) → m.good kp rs a t = true
  | 0, t, h => by
    have := h [] rfl
    cases t <;> exact this
  | d + 1, .br c t e, h => by
    have ht : ∀ l : List Bool, l.length = d → free2 m.m.name [c] = true ∧ m.part kp rs a l t = true := fun l hl => by
      have := h (true :: l) (by rw [List.length_cons, hl])
      simpa only [MethS.part, Bool.and_eq_true] using this
    have he : ∀ l : List Bool, l.length = d → m.part kp rs a l e = true := fun l hl => by
      have := h (false :: l) (by rw [List.length_cons, hl])
      simp only [MethS.part, Bool.and_eq_true] at this
      exact this.2
    simp only [MethS.good, Bool.and_eq_true]
    exact ⟨⟨(ht (List.replicate d true) (by simp)).1, MethS.part_all d t fun l hl => (ht l hl).2⟩, MethS.part_all d e he⟩
  | d + 1, .ok o, h => h (List.replicate (d + 1) true) (by simp)
  | d + 1, .both t e, h => h (List.replicate (d + 1) true) (by simp)
  | d + 1, .bad n, h => h (List.replicate (d + 1) true) (by simp)
theorem bools3 {p : List Bool → Prop} (h : ∀ a b c : Bool, p [a, b, c]) {l : List Bool} (hl : l.length = 3) : p l := by
  match l, hl with
  | [a, b, c], _ => exact h a b c
theorem bools4 {p : List Bool → Prop} (h : ∀ a b c d : Bool, p [a, b, c, d]) {l : List Bool} (hl : l.length = 4) : p l := by
  match l, hl with
  | [a, b, c, d], _ => exact h a b c d
end Go.Proofs.YtfcpmapfhgibpaaDoor
