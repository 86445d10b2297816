/- A clock's methods: what they call; how they are checked. -/
import Derived.Test.YtfcpmapfhgibpaaGreatDoorWs
import Derived.Test.YtfcpmapfhgibpaaGreatDoorWt
import Derived.Test.YtfcpmapfhgibpaaGreatDoorWf
import Derived.Test.YtfcpmapfhgibpaaGreatDoorWo
import Derived.Test.YtfcpmapfhgibpaaGreatDoorWn
import Derived.Test.YtfcpmapfhgibpaaGreatDoorGi1
set_option linter.unusedVariables false
set_option linter.unusedSimpArgs false
set_option maxRecDepth 1000000
namespace Go.Proofs.YtfcpmapfhgibpaaGreatDoor
noncomputable section
open Go Go.RowKit SX Frm Frn
def spC : SpcT := orT (spMeth 3 exSync) (orT (spMeth 3 exFoll) (orT (spMeth 3 exReq) (orT (spMeth 3 exResp) (orT (spMeth 3 exOff) (orT (ofSpc (orSpec spNext (orSpec spDecided (orSpec spExNew (orSpec (sumSpec sumsK) (orSpec spDecX spMast)))))) (orT spOf spM))))))
def callK : Caller := callH Tryz.prog [] okF spC noKeep 80 30
def isApp (f : Nat) (p : E × Bool) : Bool := match p.1 with
 | .bin .eq _ (.app g _ _) _ => Nat.beq g f
 | _ => false
def isVarF (q : Nat -> Bool) (p : E × Bool) : Bool := match p.1 with
 | .bin .zrng _ (.var i) _ => q i
 | .bin .lt _ (.var i) _ => q i
 | .bin .lt _ _ (.var i) => q i
 | _ => false
def isStV (nv j i : Nat) : Bool := Nat.ble 23 i && Nat.blt i nv && Nat.beq ((i - 23) % 6) j
def selAnn (nv : Nat) (p : E × Bool) : Bool := isApp 57 p || isVarF (fun i => Nat.beq i 0 || (Nat.blt nv i && Nat.blt i (nv + 22))) p
def selSts (nv : Nat) (p : E × Bool) : Bool := isApp 59 p
def selReq (nv : Nat) (p : E × Bool) : Bool := isVarF (isStV nv 2) p
def selDec (nv : Nat) (p : E × Bool) : Bool := isApp 57 p || isApp 59 p || isVarF (fun i => Nat.beq i 6) p
def selSend (nv : Nat) (p : E × Bool) : Bool := isVarF (isStV nv 1) p
def selNo (nv : Nat) (p : E × Bool) : Bool := false
def clAnn : Meth := ⟨20, 80, [i1, ptSh, i1], [i1], selAnn⟩
def clDec : MethS := ⟨⟨18, 82, [i1], [i1], selDec⟩, [.int .i64], 3, 0⟩
def clSync : Meth := ⟨33, 84, [i1, ptSh, i1], [i1], selSts⟩
def clReq : Meth := ⟨35, 86, [i1, i1], [ptSh, i1], selReq⟩
def clResp : Meth := ⟨37, 88, [i1, ptSh], [i1], selSts⟩
def clOff : Meth := ⟨13, 90, [], [i1, .one .bool], selNo⟩
def sndLk : List Lk := [.int .i64, .int .i64, .int .i64, .int .i64, .int .i64, .int .u64, .int .i64, .int .i64, .int .i64, .int .i64, .int .i64, .int .u64, .int .i64, .int .i64, .int .i64, .int .i64, .int .i64, .int .i64, .int .i64, .int .u64, .int .i64, .int .i64]
def clSend : MethS := ⟨⟨19, 92, [], [], selSend⟩, sndLk, 60, 23⟩
def clState : Meth := ⟨15, 94, [i1], [i1], selNo⟩
def clPar : Meth := ⟨11, 96, [], [dsSh], selNo⟩
def clA (n : Nat) : Fam := ⟨clBx n, clF n, 23 + 6 * n⟩
theorem stsN_iff {l : List Int} : stsN l = 1 ↔ StsOk l := by
 unfold stsN; split
 ·rename_i h; exact ⟨fun _ => h, fun _ => rfl⟩
 ·rename_i h; exact ⟨fun e => absurd e (by decide), fun e => absurd e h⟩
theorem wrap20 {c : Int} (h : 1 <= c /\ c <= 6) : IntKind.i64.wrap (20 + c) = 20 + c := wrap_fit ⟨by
 have : IntKind.i64.min = -9223372036854775808 := by decide
 omega, by
 have : IntKind.i64.max = 9223372036854775807 := by decide
 omega⟩
theorem code_step {s c : Int} (hs : 4 <= s /\ s <= 9) (hc : 1 <= c /\ c <= 6) (same : Bool) : 5 <= PortLaw.nxt s (20 + c) same /\ PortLaw.nxt s (20 + c) same <= 9 /\ (7 < PortLaw.nxt s (20 + c) same -> c = 6) := by
 have h1 : s = 4 \/ s = 5 \/ s = 6 \/ s = 7 \/ s = 8 \/ s = 9 := by omega
 have h2 : c = 1 \/ c = 2 \/ c = 3 \/ c = 4 \/ c = 5 \/ c = 6 := by omega
 rcases h1 with rfl | rfl | rfl | rfl | rfl | rfl <;> rcases h2 with rfl | rfl | rfl | rfl | rfl | rfl <;> cases same <;> decide
theorem time_step (same : Bool) : PortLaw.nxt 4 7 same = 6 := by cases same <;> decide
theorem qual_step (same : Bool) : PortLaw.nxt 5 8 same = 6 := by cases same <;> decide
theorem dec_step {s m c h e t o : Int} (hs : 4 <= s /\ s <= 9) (hc : 1 <= c /\ c <= 6) : 4 <= decI1 [s, m, c, h, e, t, o] /\ decI1 [s, m, c, h, e, t, o] <= 9 /\ (7 < decI1 [s, m, c, h, e, t, o] -> c = 6) := by
 unfold decI1; rw [dec_ns, wrap20 hc]; have hq : ∀ b, PortLaw.nxt 5 8 b = 6 := qual_step; have ht : ∀ b, PortLaw.nxt 4 7 b = 6 := time_step; obtain ⟨a1, a2, a3⟩ := code_step hs hc (decide (e ≠ 0)); have e4 : ([s, m, c, h, e, t, o] : List Int).getD 4 0 = e := rfl; rw [e4]
 by_cases c1 : h ≠ 0 \/ s ≠ 4
 ·rw [if_pos c1]
  by_cases c2 : PortLaw.nxt s (20 + c) (decide (e ≠ 0)) = 5
  ·rw [if_pos c2, c2, hq]; omega
  ·rw [if_neg c2]; omega
 ·rw [if_neg c1]
  have h4 : s = 4 := by
   by_cases c3 : s = 4
   ·exact c3
   ·exact absurd (.inr c3) c1
  subst h4; rw [ht]; split <;> (split <;> omega)
theorem sts_dec {l cs : List Int} {f : Nat -> Int} (h : StsOk l) (hc : ∀ i, i < l.length -> 1 <= cs.getD i 0 /\ cs.getD i 0 <= 6) (h2 : ∀ i j, i < l.length -> j < l.length -> j ≠ i -> cs.getD i 0 = 6 -> cs.getD j 0 ≠ 6)
  (hf : ∀ i, i < l.length -> ∃ m h e t o, f i = decI1 [l.getD i 0, m, cs.getD i 0, h, e, t, o]) : StsOk ((List.range l.length).map f) := by
 have key : ∀ i, i < l.length -> ((List.range l.length).map f).getD i 0 = f i := fun i hi => by
  rw [gDe, lMp, lRa hi]; rfl
 have hl : ((List.range l.length).map f).length = l.length := by simp
 refine ⟨fun i hi => ?_, fun i j hi hj ci cj => ?_⟩
 ·rw [hl] at hi
  rw [key i hi]; obtain ⟨m, hh, e, t, o, hfi⟩ := hf i hi; rw [hfi]; have := dec_step (m := m) (h := hh) (e := e) (t := t) (o := o) (h.rng i hi) (hc i hi); omega
 ·rw [hl] at hi hj
  rw [key i hi] at ci; rw [key j hj] at cj; obtain ⟨m, hh, e, t, o, hfi⟩ := hf i hi; obtain ⟨m', hh', e', t', o', hfj⟩ := hf j hj; rw [hfi] at ci; rw [hfj] at cj; have a := (dec_step (h.rng i hi) (hc i hi)).2.2 ci; have b := (dec_step (h.rng j hj) (hc j hj)).2.2 cj
  by_cases e : j = i
  ·exact e.symm
  ·exact absurd b (h2 i j hi hj e a)
theorem sts_sync {l m : List Int} {i : Nat} (h : StsOk l) (hi : i < l.length) (h7 : 7 < l.getD i 0) (hm : m.length = l.length) (hmi : m.getD i 0 = 9) (hmj : ∀ j, j < l.length -> j ≠ i -> m.getD j 0 = l.getD j 0) : StsOk m := by
 refine ⟨fun j hj => ?_, fun j k hj hk cj ck => ?_⟩
 ·rw [hm] at hj
  by_cases e : j = i
  ·subst e; rw [hmi]; omega
  ·rw [hmj j hj e]; exact h.rng j hj
 ·rw [hm] at hj hk
  have a : ∀ j, j < l.length -> 7 < m.getD j 0 -> j = i := fun j hj c => by
   by_cases e : j = i
   ·exact e
   ·rw [hmj j hj e] at c
    exact h.one j i hj hi c h7
  rw [a j hj cj, a k hk ck]
def rngP (k : IntKind) (i : Nat) : E × Bool := (.bin .zrng k (.var i) (.lit 0), true)
def msgKs : List IntKind := [.i64, .i64, .i64, .i64, .u64, .i64, .i64, .i64, .i64, .i64, .u64, .i64, .i64, .i64, .i64, .i64, .i64, .i64, .u64, .i64, .i64]
def rngPs : List IntKind -> Nat -> Fs
 | [], _ => []
 | k :: l, i => rngP k i :: rngPs l (i + 1)
def ofL (v i : Nat) : List E := ((List.range 21).map fun k => .var (v + k)) ++ [.var 0, litN (i + 1)]
def ofD (v i : Nat) : List E := [.var (v + 13), .var (v + 14), .var (v + 15), .var (v + 16), .var (v + 17), .var (v + 18), .var (v + 19), .var (v + 4), .var (v + 5), .var 0, litN (i + 1)]
def wellE (x : E) : E := eq0 (.app 57 0 [x, .var 0]) (.lit 1)
def recV (i : Nat) : E := .var (stV i 4)
def hearRu (v t i : Nat) : Rule := ⟨(eq0 (.var (v - 1)) (litN (i + 1)), true) :: (eq0 (.app 74 11 (ofL v i)) (.lit 0), true) :: (.bin .eq .u64 (.var (v + 18)) (.var 0), false) :: (wellE (recV i), true) :: rngP .u64 0 :: rngPs msgKs v, [(wellE (hearE (recV i) (ofD v i) (.var t)), true)]⟩
def rulesAnn (n : Nat) : List Rule := (List.range n).map fun i => hearRu (24 + 6 * n) (45 + 6 * n) i
def syncRu (n k i : Nat) : Rule := ⟨[oneF (stsE n), (eq0 (.var (stV i 0)) (litN k), true)], [oneF (.app 59 0 ((List.range n).map fun j => bif Nat.beq j i then nextE (litN k) (.lit 9) (.lit 0) else .var (stV j 0)))]⟩
def rulesSync (n : Nat) : List Rule := (List.range n).flatMap fun i => [syncRu n 8 i, syncRu n 9 i]
def forgV (t i : Nat) : E := forgE (recV i) (.var t)
def decLx (n t : Nat) : List E := cdL mstQ (.var t) ((List.range n).map (forgV t))
def forgRu (t i : Nat) : Rule := ⟨[(lt0 (.var t) (.var 22), false), (wellE (recV i), true)], [(wellE (forgV t i), true)]⟩
def followRu (n t : Nat) : Rule := ⟨(List.range n).map fun i => (wellE (forgV t i), true), [oneF (.app 58 0 (mstQ ++ (List.range 11).map fun j => msE j (decLx n t)))]⟩
def stsRu (n t : Nat) (p : Fs) (s : E) : Rule := ⟨p ++ [oneF (stsE n)], [oneF (.app 59 0 ((List.range n).map fun i => decE 1 [.var (stV i 0), .var (stV i 3), cdE i (decLx n t), bokE (forgV t i) (.var t), s, .var t, .var 10]))]⟩
def sameX (n t : Nat) : E := eq0 (.var 19) (msE 8 (decLx n t))
def gmX (n t : Nat) : E := .bin .eq .u64 (msE 5 (decLx n t)) (.var 16)
def sndX (n t : Nat) : E := .bin .eq .u64 (msE 7 (decLx n t)) (.var 18)
def rulesDec (n : Nat) : List Rule := ((List.range n).map fun i => forgRu (23 + 6 * n) i) ++ [followRu n (23 + 6 * n), stsRu n (23 + 6 * n) [(gmX n (23 + 6 * n), false)] (.lit 0), stsRu n (23 + 6 * n) [(gmX n (23 + 6 * n), true), (sndX n (23 + 6 * n), false)] (.lit 0), stsRu n (23 + 6 * n) [(gmX n (23 + 6 * n), true), (sndX n (23 + 6 * n), true)] (sameX n (23 + 6 * n))]
def MethS.part (kp : Nat) (rs : List Rule) (a : Fam) (m : MethS) : List Bool -> T Out -> Bool
 | b :: l, .br c t e => free2 m.m.name [c] && (match b with | true => m.part kp rs a l t | false => m.part kp rs a l e)
 | _, t => m.good kp rs a t
theorem MethS.part_all {kp : Nat} {rs : List Rule} {a : Fam} {m : MethS} : ∀ (d : Nat) (t : T Out), (∀ l : List Bool, l.length = d -> m.part kp rs a l t = true) -> m.good kp rs a t = true
 | 0, t, h => by
  have := h [] rfl; cases t <;> exact this
 | d + 1, .br c t e, h => by
  have ht : ∀ l : List Bool, l.length = d -> free2 m.m.name [c] = true /\ m.part kp rs a l t = true := fun l hl => by
   have := h (true :: l) (by rw [List.length_cons, hl])
   simpa only [MethS.part, bAnd] using this
  have he : ∀ l : List Bool, l.length = d -> m.part kp rs a l e = true := fun l hl => by
   have := h (false :: l) (by rw [List.length_cons, hl])
   simp only [MethS.part, bAnd] at this; exact this.2
  simp only [MethS.good, bAnd]; exact ⟨⟨(ht (List.replicate d true) (by simp)).1, MethS.part_all d t fun l hl => (ht l hl).2⟩, MethS.part_all d e he⟩
 | d + 1, .ok o, h => h (List.replicate (d + 1) true) (by simp)
 | d + 1, .both t e, h => h (List.replicate (d + 1) true) (by simp)
 | d + 1, .bad n, h => h (List.replicate (d + 1) true) (by simp)
def qP (n d k : Nat) : Bool := clSend.part 6 [] (clA n) (bL d k) (clSend.m.tree callK (clA n))
theorem qP_all {n d : Nat} (h : ∀ k, k < 2 ^ d -> qP n d k = true) : clSend.good 6 [] (clA n) (clSend.m.tree callK (clA n)) = true := MethS.part_all d _ fun l hl => bL_all d (p := fun l => clSend.part 6 [] (clA n) l (clSend.m.tree callK (clA n)) = true) h hl
def spCR : SpcT := orT (spMeth 4 rxSync) (orT (spMeth 4 rxFoll) (orT (spMeth 4 rxReq) (orT (spMeth 4 rxResp) (orT (spMeth 4 rxOff) (orT (ofSpc (orSpec spNextR (orSpec spExNewR (orSpec (sumSpec sumsK) (orSpec spDecXR spMastR))))) (orT spOfR (orT spF2 (orT spBest2 (ofSpc spLess2)))))))))
def callKR : Caller := callH Tryz.prog [] okF spCR noKeep 80 30
def rcAnn : Meth := ⟨30, 80, [i1, ptSh, i1], [i1], selAnn⟩
def rcDec : MethS := ⟨⟨31, 82, [i1], [i1], selDec⟩, [.int .i64], 3, 2⟩
def rcSync : Meth := ⟨34, 84, [i1, ptSh, i1], [i1], selSts⟩
def rcReq : Meth := ⟨36, 86, [i1, i1], [ptSh, i1], selReq⟩
def rcResp : Meth := ⟨38, 88, [i1, ptSh], [i1], selSts⟩
def rcOff : Meth := ⟨14, 90, [], [i1, .one .bool], selNo⟩
def rcSend : MethS := ⟨⟨40, 92, [], [], selSend⟩, sndLk, 60, 23⟩
def rcState : Meth := ⟨16, 94, [i1], [i1], selNo⟩
def rcPar : Meth := ⟨12, 96, [], [dsSh], selNo⟩
def clAR (n : Nat) : Fam := ⟨clBxR n, clF n, 23 + 6 * n⟩
def ofLV (v : Nat) : List E := ((List.range 21).map fun k => .var (v + k)) ++ [.var 0, .var (v - 1)]
def ofDV (v : Nat) : List E := [.var (v + 13), .var (v + 14), .var (v + 15), .var (v + 16), .var (v + 17), .var (v + 18), .var (v + 19), .var (v + 4), .var (v + 5), .var 0, .var (v - 1)]
def hearRuL (v t i n : Nat) : Rule := ⟨(lt0 (.var (v - 1)) (.lit 1), false) :: (lt0 (litN n) (.var (v - 1)), false) :: (eq0 (.app 74 11 (ofLV v)) (.lit 0), true) :: (.bin .eq .u64 (.var (v + 18)) (.var 0), false) :: (wellE (recV i), true) :: rngP .u64 0 :: rngPs msgKs v, [(wellE (hearE (recV i) (ofDV v) (.var t)), true)]⟩
def rulesAnnR (n : Nat) : List Rule := hearRuL (24 + 6 * n) (45 + 6 * n) (n - 1) n :: rulesAnn n
def twinB (n : Nat) (rs : List Rule) (m m' : Meth) : Bool := m'.good 6 rs (clAR n) (m'.tree callKR (clAR n)) && sameB (clA n) (clAR n) (leafE m.rs) (leafE m.rs) [] (m'.tree callKR (clAR n)) (m.tree callK (clA n))
def sndTR (n : Nat) : T Out := rcSend.m.tree callKR (clAR n)
def sndTP (n : Nat) : T Out := clSend.m.tree callK (clA n)
def sndS (n : Nat) (p : Fs) (o : Out) : Bool := noWay (learnAll p []) || allS (endS (clA n) (clAR n) clSend.flat rcSend.flat o) (learnAll p []) (sndTR n)
def keP (n d k : Nat) : Bool := partC (sndS n) (bL d k) [] (sndTP n)
def kgP (n d k : Nat) : Bool := rcSend.part 6 [] (clAR n) (bL d k) (sndTR n)
theorem keP_all {n d : Nat} (h : ∀ k, k < 2 ^ d -> keP n d k = true) : allC (sndS n) [] (sndTP n) = true := partC_all d _ _ fun l hl => bL_all d (p := fun l => partC (sndS n) l [] (sndTP n) = true) h hl
theorem kgP_all {n d : Nat} (h : ∀ k, k < 2 ^ d -> kgP n d k = true) : rcSend.good 6 [] (clAR n) (sndTR n) = true := MethS.part_all d _ fun l hl => bL_all d (p := fun l => rcSend.part 6 [] (clAR n) l (sndTR n) = true) h hl
theorem sndS_all {n : Nat} (h : allC (sndS n) [] (sndTP n) = true) : sameB (clA n) (clAR n) clSend.flat rcSend.flat [] (rcSend.m.tree callKR (clAR n)) (clSend.m.tree callK (clA n)) = true := h
def twS (n : Nat) (m m' : Meth) (p : Fs) (o : Out) : Bool := noWay (learnAll p []) || allS (endS (clA n) (clAR n) (leafE m.rs) (leafE m.rs) o) (learnAll p []) (m'.tree callKR (clAR n))
theorem twin_of {n : Nat} {rs : List Rule} {m m' : Meth} (hg : m'.good 6 rs (clAR n) (m'.tree callKR (clAR n)) = true) (hs : allC (twS n m m') [] (m.tree callK (clA n)) = true) : twinB n rs m m' = true := by
 unfold twinB; rw [bAnd]; exact ⟨hg, hs⟩
def tG (m' : Meth) (rs : Nat -> List Rule) (n : Nat) : Bool := m'.good 6 (rs n) (clAR n) (m'.tree callKR (clAR n))
def tS (m m' : Meth) (n d k : Nat) : Bool := partC (twS n m m') (bL d k) [] (m.tree callK (clA n))
def noR (n : Nat) : List Rule := []
theorem tS_all {n : Nat} {rs : Nat -> List Rule} {m m' : Meth} {d : Nat} (hg : tG m' rs n = true) (h : ∀ k, k < 2 ^ d -> tS m m' n d k = true) : twinB n (rs n) m m' = true :=
 twin_of hg (partC_all d _ _ fun l hl => bL_all d (p := fun l => partC (twS n m m') l [] (m.tree callK (clA n)) = true) h hl)
def tV (n : Nat) : Nat := 23 + 6 * n
def recX (n i j : Nat) : E := if j < i then forgV (tV n) j else .var (stV j 4)
def staX (i : Nat) (st mk : E) (rec ex : E) : List Box := [⟨true, .cells [.int .i64 st, .ptr (3 + 3 * i) 0, .ptr (4 + 3 * i) 0, iV (stV i 1), iV (stV i 2), .int .i64 mk] 89 0⟩, ⟨true, .obj 2 [rec]⟩, ⟨true, .obj 4 [ex]⟩]
def clkX (n : Nat) (d : List SV) : List Box := [⟨true, .cells (confV n ++ [.slice 1 0 n none] ++ d ++ [iV (tV n)]) 81 0⟩, ⟨true, .cells ((List.range n).map fun i => .ptr (2 + 3 * i) 0) 83 2⟩]
def bstBx (n i : Nat) : List Box := if i = 0 then [] else [⟨true, .cells ((List.range i).flatMap fun j => prtC (forgV (tV n) j) (.var (tV n))) 103 13⟩]
def slX (n i : Nat) : SV := if i = 0 then .raw (.slice none 0 0) else .slice (2 + 3 * n) 0 i none
def lxD (n : Nat) : List E := decLx n (tV n)
def gmD (n : Nat) : E := .bin .eq .u64 (.var 16) (msE 5 (lxD n))
def snD (n : Nat) : E := .bin .eq .u64 (.var 18) (msE 7 (lxD n))
def saD (n : Nat) : E := eq0 (.var 19) (msE 8 (lxD n))
def nsD (n : Nat) : E := .bin .band .i64 (gmD n) (.bin .band .i64 (snD n) (saD n))
def sED (k : Nat) : E := litN k
def kFD (n k : Nat) : Fs := match k with
 | 0 => [(nsD n, false)]
 | _ => [(gmD n, true), (snD n, true), (saD n, true)]
def nsRu (n : Nat) : List Rule := [⟨[(gmD n, false)], [(nsD n, false)]⟩, ⟨[(snD n, false)], [(nsD n, false)]⟩, ⟨[(saD n, false)], [(nsD n, false)]⟩]
def d1Bx (n i : Nat) : List Box := clkX n (dsV 11) ++ ((List.range n).flatMap fun j => staX j (.var (stV j 0)) (.var (stV j 3)) (recX n i j) (.var (stV j 5))) ++ bstBx n i
def dF (n : Nat) : Fs := [(lt0 (.var (tV n)) (.var 22), false), (lt0 (.var (tV n)) (.lit 0), false), (lt0 (.lit 1125899906842624) (.var (tV n)), false)]
def d1T (n i : Nat) : TmN := ⟨⟨227, [(7, .int .i64 (litN i)), (6, slX n i), (0, .ptr 0 0), (1, .int .i64 (.var (tV n)))], d1Bx n i, dF n⟩, .lit 2, .lit (Int.ofNat (n - i)), .lit 0, if i < n then [] else nsRu n⟩
def d1P : Path := [1, 1, 1, 1, 1, 1, 0, 1, 0]
def d1C (n : Nat) : CutN := ⟨d1P, (List.range (n + 1)).map (d1T n)⟩
def decD (n k j : Nat) : List E := [.var (stV j 0), .var (stV j 3), cdE j (lxD n), bokE (forgV (tV n) j) (.var (tV n)), sED k, .var (tV n), .var 10]
def dsM (n : Nat) : List SV := ([.i64, .i64, .i64, .i64, .i64, .u64, .i64, .u64, .i64, .u64, .i64] : List IntKind).zipIdx.map fun p => .int p.1 (msE p.2 (lxD n))
def d2Bx (n k i : Nat) : List Box := clkX n (dsM n) ++ ((List.range n).flatMap fun j => if j < i then staX j (decE 1 (decD n k j)) (decE 2 (decD n k j)) (forgV (tV n) j) (if k = 0 then exNewE (.var 6) else .var (stV j 5)) else staX j (.var (stV j 0)) (.var (stV j 3)) (forgV (tV n) j) (.var (stV j 5))) ++ bstBx n n
 ++ [⟨true, .cells ((List.range n).map fun j => .int .i64 (cdE j (lxD n))) 3 2⟩]
def hasP (σ : Nat -> E) (p : E × Bool) : E × Bool := match p.1 with
 | .var 3 => (eq0 (σ 3) (.lit 0), !p.2)
 | c => (c.sub σ, p.2)
def subR (σ : Nat -> E) (r : Rule) : Rule := ⟨r.prem.map (hasP σ), r.con.map fun p => (p.1.sub σ, p.2)⟩
def decRu (n k j : Nat) : List Rule := decRules.map (subR fun v => (decD n k j).getD v (.lit 0))
def d2T (n k i : Nat) : TmN := ⟨⟨227, [(14, .int .i64 (litN i)), (10, .slice (3 + 3 * n) 0 n none), (13, .bool (sED k)), (6, slX n n), (0, .ptr 0 0), (1, .int .i64 (.var (tV n)))], d2Bx n k i, dF n ++ kFD n k⟩, .lit 1, .lit (Int.ofNat (n - i)), .lit 0, if i < n then decRu n k i else []⟩
def d2Ts (n : Nat) : List TmN := (List.range (n + 1)).flatMap fun i => [d2T n 0 i, d2T n 1 i]
def d2P : Path := [1, 1, 1, 1, 1, 1, 1, 1, 1, 1, 1, 1, 0, 1, 0]
def d2C (n : Nat) : CutN := ⟨d2P, d2Ts n⟩
def dCs (n : Nat) : List CutN := [d1C n, d2C n]
def rulesDecR (n : Nat) : List Rule := ((List.range n).map fun i => forgRu (tV n) i) ++ [followRu n (tV n), stsRu n (tV n) [(nsD n, false)] (.lit 0), stsRu n (tV n) [(gmD n, true), (snD n, true), (saD n, true)] (.lit 1)]
def decCode : Code := (Tryz.f31.body).getD .skip
def decTP (n : Nat) : T Out := clDec.m.tree callK (clA n)
def decEnd (n : Nat) : Rs -> Bool := endN Tryz.prog Tryz.f31 6 (rulesDecR n) (clA n) (clAR n) clDec rcDec (decTP n)
def decIn (n b : Nat) : Bool := (execP Tryz.prog [(b, 0)] callKR (noKeep 31) 80 decCode (entrySt Tryz.f31 (.ptr 0 0 :: varShs rcDec.m.ps (clAR n).nv) (Hp.ofL (clAR n).bs) (facN (clAR n) rcDec))).all (leafOkI [(b, 0)] [⟨d1P, [d1T n 0]⟩] (decEnd n) [] (fun _ _ => true))
def decOk (n b : Nat) (l : List CutN) (c : CutN) (t : TmN) (g : Nat -> Value) (p : Fs) : Bool := roundOkI Tryz.prog [(b, 0)] callKR (noKeep 31) 80 l (decEnd n) decCode (p ++ facN (clAR n) rcDec) c t g
theorem all_imp {α : Type} {q q' : α -> Bool} (h : ∀ a, q a = true -> q' a = true) : ∀ {t : T α}, t.all q = true -> t.all q' = true
 | .ok a, ht => h a ht
 | .br c t e, ht => by
  simp only [T.all, bAnd] at ht ⊢; exact ⟨all_imp h ht.1, all_imp h ht.2⟩
 | .both t e, ht => by
  simp only [T.all, bAnd] at ht ⊢; exact ⟨all_imp h ht.1, all_imp h ht.2⟩
 | .bad n, ht => by cases ht
theorem sub1 {n i : Nat} (hi : i < n + 1) : SubC [⟨d1P, [d1T n i]⟩] (dCs n) := fun c hc => by
 obtain rfl := List.mem_singleton.1 hc
 exact ⟨d1C n, lHd .., rfl, fun t ht => by
  obtain rfl := List.mem_singleton.1 ht; exact List.mem_map.2 ⟨i, mRa.2 hi, rfl⟩⟩
theorem sub2 {n i : Nat} (hi : i < n + 1) {ks : List Nat} (hk : ∀ k ∈ ks, k < 2) : SubC [⟨d2P, ks.map fun k => d2T n k i⟩] (dCs n) := fun c hc => by
 obtain rfl := List.mem_singleton.1 hc; refine ⟨d2C n, lTl _ (lHd ..), rfl, fun t ht => ?_⟩
 obtain ⟨k, hkm, rfl⟩ := List.mem_map.1 ht; refine List.mem_flatMap.2 ⟨i, mRa.2 hi, ?_⟩; have := hk k hkm
 match k, this with
 | 0, _ => simp
 | 1, _ => simp
 | k + 2, h => exact absurd h (by omega)
theorem sub0 {n : Nat} : SubC [] (dCs n) := fun c hc => by cases hc
def rA (n i b : Nat) (g : Nat -> Value) : Bool := decOk n b [⟨d1P, [d1T n (i + 1)]⟩] (d1C n) (d1T n i) g []
def rX (n b : Nat) (g : Nat -> Value) (v : Bool) : Bool := decOk n b [⟨d2P, (bif v then [0, 1] else [0]).map fun k => d2T n k 0⟩] (d1C n) (d1T n n) g [(saD n, v)]
def rB (n k i b : Nat) (g : Nat -> Value) : Bool := decOk n b [⟨d2P, [k].map fun k => d2T n k (i + 1)⟩] (d2C n) (d2T n k i) g []
def rE (n k b : Nat) (g : Nat -> Value) : Bool := decOk n b [] (d2C n) (d2T n k n) g []
def DecL (n : Nat) : Prop := LoopOk Tryz.prog callK callKR (noKeep 31) 80 decCode Tryz.f31 (clA n) (clAR n) clDec rcDec 6 (rulesDecR n) (dCs n) []
theorem dec_loop {n : Nat} (he : ∀ b, decIn n b = true) (hA : ∀ i, i < n -> ∀ b g, rA n i b g = true) (hX : ∀ v b g, rX n b g v = true) (hB : ∀ k, k < 2 -> ∀ i, i < n -> ∀ b g, rB n k i b g = true) (hE : ∀ k, k < 2 -> ∀ b g, rE n k b g = true) : DecL n := by
 refine ⟨rfl, fun b => ?_, fun b c hc t ht => ?_⟩
 ·exact all_imp (fun s hs => leafOkI_sub (sub1 (Nat.succ_pos n)) hs) (he b)
 simp only [dCs, mCo, List.not_mem_nil, or_false] at hc; rcases hc with rfl | rfl
 ·obtain ⟨i, hi, rfl⟩ := List.mem_map.1 (show t ∈ (List.range (n + 1)).map (d1T n) from ht)
  have hi := mRa.1 hi
  by_cases h : i < n
  ·exact ⟨.leaf, fun g => CT.mk0 ⟨_, sub1 (by omega), hA i h b g⟩⟩
  ·obtain rfl : i = n := by omega
   exact ⟨.split (saD i) .leaf .leaf, fun g => CT.mk2 (CT.mk0 ⟨_, sub2 (by omega) (by decide), hX true b g⟩) (CT.mk0 ⟨_, sub2 (by omega) (by decide), hX false b g⟩)⟩
 ·obtain ⟨i, hi, ht⟩ := List.mem_flatMap.1 (show t ∈ d2Ts n from ht)
  have hi := mRa.1 hi
  have key : ∀ k, k < 2 -> ∃ ct : CT, ∀ g, ct.all fun p => ∃ l, SubC l (dCs n) /\ decOk n b l (d2C n) (d2T n k i) g p = true := fun k hk => by
   by_cases h : i < n
   ·exact ⟨.leaf, fun g => CT.mk0 ⟨_, sub2 (by omega) (fun j hj => by obtain rfl := List.mem_singleton.1 hj; exact hk), hB k hk i h b g⟩⟩
   ·obtain rfl : i = n := by omega
    exact ⟨.leaf, fun g => CT.mk0 ⟨_, sub0, hE k hk b g⟩⟩
  simp only [mCo, List.not_mem_nil, or_false] at ht; rcases ht with rfl | rfl
  ·exact key 0 (by omega)
  ·exact key 1 (by omega)
end
end Go.Proofs.YtfcpmapfhgibpaaGreatDoor
