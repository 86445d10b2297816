/- The law BoundarySends of layer 41: its templates and rounds. -/
import Derived.Test.YtfcpmapfhgibpaaDoorWz1
import Derived.Test.YtfcpmapfhgibpaaDoorWz2
namespace Go.Proofs.YtfcpmapfhgibpaaDoor
open Go Go.RowKit SX Frm Frn
set_option linter.unusedVariables false
set_option linter.unusedSimpArgs false
set_option maxRecDepth 100000

def sndSh : List Ph := [.sh confSh, .sl actLk]
def actsS : SV := .inp 2 24 0 (.var 11) (.var 11) (.var 12)
def sX : E := .var 13
def sI : E := .bin .zadd .i64 (.var 11) (.bin .zmul .i64 (.lit (-1)) (.var 15))
def confS : List SV := .int .u64 (.var 0) :: (List.range' 1 10).map fun i => .int .i64 (.var i)
def sndBx0 (x : E) : List Box := tabBx2 ++ [⟨false, .arr 0 actLk (.var 11)⟩, ⟨true, .cells confS 26 0⟩, ⟨true, .obj 5 [x]⟩]
def sF : Fs := [oneF (okX sX), (lt0 sI (.lit 0), false), (lt0 (.var 15) (.lit 0), false)]
/-- At the loop over the acts. -/
def sndT : TmN := ⟨⟨137, [(32, .int .i64 sI), (30, actsS), (31, .int .i64 (.var 11)), (6, .int .i64 (.var 14)), (2, .ptr 3 0), (5, .ptr 4 0)], sndBx0 sX, sF⟩, .var 15, .lit 20, .lit 0, (List.range 9).map (cntRu sX) ++ (List.range' 1 8).map fun k => msgRu sX k 0⟩
def sndC : CutN := ⟨[1, 1, 1, 1, 1, 0, 1, 0], [sndT]⟩
def msgSl (b k : Nat) : SV := if k = 0 then .raw (.slice none 0 0) else .slice b 0 k none
def msgBx (x : E) (k : Nat) : Box := ⟨true, .cells ((List.range k).flatMap fun i => (List.range 22).map fun f => .int (msgK.getD f .i64) (ca x i f)) 53 23⟩
/-- At the loop over k messages, at message i. -/
def sndM (k i : Nat) : TmN := ⟨⟨137, [(64, .int .i64 (litN i)), (62, msgSl 5 k), (63, .int .i64 (litN k)), (10, msgSl 6 k), (2, .ptr 3 0), (5, .ptr 4 0)],
  sndBx0 (sX2 sX) ++ (if k = 0 then [] else [msgBx sX k, msgBx (sX1 sX) k]), [oneF (okX sX), isN (sN sX) (Int.ofNat k)] ++ (if i < k then learnAll (msgCon sX i) [] else [])⟩, .lit 0, .lit 10, .lit (Int.ofNat (k - i)), if i + 1 < k then [msgRu sX k (i + 1)] else []⟩
def sndC2 : CutN := ⟨[1, 1, 1, 1, 1, 1, 1, 1, 0, 1, 0], (List.range 9).flatMap fun k => (List.range (k + 1)).map (sndM k)⟩
def sndCs : List CutN := [sndC, sndC2]
def sndAx : Fs := lenU 11 ++ phFacts sndSh 0
def sLt : E := lt0 (.lit 0) (.var 15)
def cN (k : Nat) : E := eq0 (sN sX) (litN k)
noncomputable def sndCode : Code := (Tryd.f4.body).getD .skip
set_option maxRecDepth 1000000 in
theorem snd_enter : ((execP Tryd.prog (tabGl tabs2 0) callL (noKeep 4) 80 sndCode (entrySt Tryd.f4 (phArgs tabs2.length (phSize sndSh) none sndSh 0) (arrHp tabs2 (phKs sndSh) (phSize sndSh)) (([] ++ sndAx) ++ (lenU (phSize sndSh) ++ phFacts sndSh 0)))).all (leafOkN (tabGl tabs2 0) sndCs (lawEnd Tryd.prog Tryd.f4) (phSize sndSh + 2) [] (fun _ _ _ => true))) = true := by kernel_rfl
noncomputable abbrev sndOk (c : CutN) (t : TmN) (g : Nat → Value) (p : Fs) : Bool := roundOkN Tryd.prog (tabGl tabs2 0) callL (noKeep 4) 80 sndCs (lawEnd Tryd.prog Tryd.f4) (phSize sndSh + 2) sndCode (p ++ sndAx) c t g
set_option maxRecDepth 1000000 in
theorem snd_body : Tryd.f4.body = some sndCode := by kernel_rfl
theorem snd_rules {ρ : Env} (hf : Law ρ.fn) {c : CutN} (hc : c ∈ sndCs) {t : TmN} (ht : t ∈ c.ts) : ∀ r ∈ t.rs, RuleOk ρ r := by
  intro r hr
  simp only [sndCs, List.mem_cons, List.not_mem_nil, or_false] at hc
  rcases hc with rfl | rfl
  · obtain rfl : t = sndT := by simpa [sndC] using ht
    rcases List.mem_append.1 (show r ∈ (List.range 9).map (cntRu sX) ++ (List.range' 1 8).map (fun k => msgRu sX k 0) from hr) with hr | hr
    · obtain ⟨k, _, rfl⟩ := List.mem_map.1 hr
      exact cntRu_ok hf _ _
    · obtain ⟨k, hk, rfl⟩ := List.mem_map.1 hr
      have := List.mem_range'_1.1 hk
      exact msgRu_ok hf _ (by omega)
  · obtain ⟨k, _, ht⟩ := List.mem_flatMap.1 (show t ∈ (List.range 9).flatMap fun k => (List.range (k + 1)).map (sndM k) from ht)
    obtain ⟨i, _, rfl⟩ := List.mem_map.1 ht
    have hr : r ∈ if i + 1 < k then [msgRu sX k (i + 1)] else [] := hr
    split at hr
    · rename_i hi
      obtain rfl := List.mem_singleton.1 hr
      exact msgRu_ok hf _ hi
    · cases hr
end Go.Proofs.YtfcpmapfhgibpaaDoor
