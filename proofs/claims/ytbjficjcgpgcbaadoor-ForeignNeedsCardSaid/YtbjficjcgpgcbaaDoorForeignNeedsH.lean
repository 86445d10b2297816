/- The law ForeignNeeds of layer 35: its templates. -/
import Derived.Test.YtbjficjcgpgcbaaDoorFz
namespace Go.Proofs.YtbjficjcgpgcbaaDoor
open Go Go.RowKit SX Frm Frn
set_option linter.unusedVariables false
set_option linter.unusedSimpArgs false

def neeSh : List Ph := [.sh (.agg [.int .i64, .int .i64]), .sl [.int .i64], .sh (.one (.int .i64))]
def nI : E := .bin .zadd .i64 (.var 3) (.bin .zmul .i64 (.lit (-1)) (.var 6))
def nX : E := .var 5
def nT : E := .rd 0 3 nI
def nAt : E := .var 2
def cel (i : Nat) : E := .var (7 + i)
def lastC (h : Nat) : List E := (List.range' (h - 8) (h - (h - 8))).map cel
def neeBx (h : Nat) : List Box := [⟨false, .ro (cells35.map ofLeaf)⟩, ⟨false, .arr 0 [.int .i64] (.var 3)⟩, ⟨true, .cells [.int .i64 (.var 0), .int .i64 (.var 1)] 23 0⟩, ⟨true, .obj 1 [nX]⟩, ⟨true, .cells (dsS fun j => nD.getD j (.lit 0)) 32 0⟩] ++ (if h = 0 then [] else [⟨true, .cells ((List.range h).map fun i => .int .i64 (cel i)) 3 2⟩])
def neeF (h : Nat) : Fs := [isE (soloE nX (lastC h)) 1]
def hrd (h : Nat) : SV := if h = 0 then .raw (.slice none 0 0) else .slice 5 0 h none
def now0 (h : Nat) : E := .bin .max .i64 nAt (cel (h - 1))
def neeT (h : Nat) : TmN := ⟨⟨121, [(9, hrd h), (10, .int .i64 nI), (1, .inp 1 1 0 (.var 3) (.var 3) (.var 4)), (2, .int .i64 (.var 2)), (3, .ptr 2 0), (7, .ptr 3 0), (8, .ptr 4 0)],
  neeBx h, neeF h ++ [(lt0 nI (.lit 0), false), (lt0 (.lit (Int.ofNat (40 - h))) (.var 6), false), (lt0 (.var 6) (.lit 0), false)]⟩, .bin .zadd .i64 (.var 6) (.lit 1), .lit 20, .lit 0, hearS nX nT (lastC h) :: (if h = 0 then [neeEnd nX nAt] else [rngR nX (lastC h), cnt0 (now0 h)])⟩
def neeC : CutN := ⟨[1, 1, 1, 1, 1, 0, 1, 0], (List.range 41).map neeT⟩
def neeAx : Fs := lenU 3 ++ phFacts neeSh 0
def cntQ (h q : Nat) : E := cntE (now0 h) ((lastC h).take q)
def lo8 (h q : Nat) : Nat := h - 8 + q
def neeT2 (h q : Nat) : TmN := ⟨⟨121, [(9, hrd h), (13, .int .i64 (.lit (Int.ofNat (lo8 h q)))), (11, .int .i64 (now0 h)), (12, .int .i64 (cntQ h q)), (2, .int .i64 (.var 2)), (3, .ptr 2 0), (7, .ptr 3 0), (8, .ptr 4 0)],
  neeBx h, neeF h ++ rngF (lastC h) ++ [(lt0 (cntQ h q) (.lit 0), false), (lt0 (.lit 8) (cntQ h q), false)]⟩, .lit 0, .lit 0, .lit (Int.ofNat (8 - q)), if lo8 h q < h then stepC (now0 h) (cel (lo8 h q)) ((lastC h).take q) else endS nX nAt (cel (h - 1)) (lastC h)⟩
def neeC2 : CutN := ⟨[1, 1, 1, 1, 1, 1, 1, 1, 1, 0, 1, 0], (List.range' 1 40).flatMap fun h => (List.range (min h 8 + 1)).map (neeT2 h)⟩
def neeCs : List CutN := [neeC, neeC2]
def neeR0 : List Rule := [newS0]
noncomputable def neeCode : Code := (Tryd.f7.body).getD .skip
set_option maxRecDepth 1000000 in
theorem nee_enter : ((execP Tryd.prog (tabGl tabs35 0) callM (noKeep 7) 80 neeCode (entrySt Tryd.f7 (phArgs tabs35.length (phSize neeSh) none neeSh 0) (arrHp tabs35 (phKs neeSh) (phSize neeSh)) (([] ++ neeAx) ++ (lenU (phSize neeSh) ++ phFacts neeSh 0)))).all (leafOkN (tabGl tabs35 0) neeCs (lawEnd Tryd.prog Tryd.f7) (phSize neeSh + 2) neeR0 (fun _ _ _ => true))) = true := by kernel_rfl
noncomputable abbrev neeOk (c : CutN) (t : TmN) (g : Nat → Value) : Bool := roundOkN Tryd.prog (tabGl tabs35 0) callM (noKeep 7) 80 neeCs (lawEnd Tryd.prog Tryd.f7) (phSize neeSh + 2) neeCode ([] ++ neeAx) c t g
noncomputable def neeB (h n : Nat) (g : Nat → Value) : Bool := (List.range' h n).all fun h => neeOk neeC (neeT h) g && (decide (h = 0) || (List.range (min h 8 + 1)).all fun q => neeOk neeC2 (neeT2 h q) g)
set_option maxRecDepth 1000000 in
theorem nee_body : Tryd.f7.body = some neeCode := by kernel_rfl
theorem len_ax {ns : List Int} {m cap : Nat} {A : Nat → Nat → Int → Int} {w : World} {hs : List Ph} {b off : Nat} {l : Nat} (ht : TabsIn tabs35 w) (hA : ArrIn w (phKs hs) b off m cap A) (hns : phFits hs ns) (hl : ns.length = phSize hs) (hll : phSize hs = l) : SX.FsOk (envA FN (ns ++ [(m : Int), (cap : Int)]) A) (lenU l ++ phFacts hs 0) := by
  subst hll
  obtain ⟨_, _, s3, _, _⟩ := arr_start (m := phSize hs) tabs35 tabs35_nd ht hA FN (ns ++ [(m : Int), (cap : Int)]) (by rw [← hl]; simp) (by rw [← hl]; simp)
  obtain ⟨a1, a2⟩ := ph_append (hs := hs) (ms := [(m : Int), (cap : Int)]) (ss := ([] : List Value)) hl
  exact fsOk_app s3 (phFacts_ok (a2.2 hns))
theorem lastC_last {h : Nat} (hh : 1 ≤ h) : (lastC h).getLast? = some (cel (h - 1)) := by
  unfold lastC
  rw [List.getLast?_map, List.getLast?_range', if_neg (by omega)]
  show some (cel _) = _
  congr 2
  omega
theorem nee_rules {ρ : Env} (hf : ρ.fn = FN) {c : CutN} (hc : c ∈ neeCs) {t : TmN} (ht : t ∈ c.ts) : ∀ r ∈ t.rs, RuleOk ρ r := by
  intro r hr
  simp only [neeCs, List.mem_cons, List.not_mem_nil, or_false] at hc
  rcases hc with rfl | rfl
  · obtain ⟨h, _, rfl⟩ := List.mem_map.1 (show t ∈ (List.range 41).map neeT from ht)
    rcases List.mem_cons.1 (show r ∈ hearS nX nT (lastC h) :: (if h = 0 then [neeEnd nX nAt] else [rngR nX (lastC h), cnt0 (now0 h)]) from hr) with rfl | hr
    · exact hearS_ok hf _ _ _
    · split at hr
      · obtain rfl := List.mem_singleton.1 hr
        exact neeEnd_ok hf _ _
      · simp only [List.mem_cons, List.not_mem_nil, or_false] at hr
        rcases hr with rfl | rfl
        · exact rngR_ok hf _ _
        · exact cnt0_ok hf _
  · obtain ⟨h, hh, ht⟩ := List.mem_flatMap.1 (show t ∈ (List.range' 1 40).flatMap fun h => (List.range (min h 8 + 1)).map (neeT2 h) from ht)
    obtain ⟨q, hq, rfl⟩ := List.mem_map.1 ht
    have hh := List.mem_range'_1.1 hh
    have hr : r ∈ if lo8 h q < h then stepC (now0 h) (cel (lo8 h q)) ((lastC h).take q) else endS nX nAt (cel (h - 1)) (lastC h) := hr
    split at hr
    · rename_i hlt
      unfold lo8 at hlt
      exact stepC_ok hf _ _ (by rw [List.length_take]; omega) r hr
    · exact endS_ok hf _ _ (lastC_last hh.1) r hr
end Go.Proofs.YtbjficjcgpgcbaaDoor
