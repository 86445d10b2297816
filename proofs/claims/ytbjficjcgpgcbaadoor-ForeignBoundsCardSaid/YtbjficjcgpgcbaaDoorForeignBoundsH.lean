/- The law ForeignBounds of layer 35: its templates. -/
import Derived.Test.YtbjficjcgpgcbaaDoorFy
namespace Go.Proofs.YtbjficjcgpgcbaaDoor
open Go Go.RowKit SX Frm Frn
set_option linter.unusedVariables false
set_option linter.unusedSimpArgs false

def bouSh : List Ph := [.sh (.one (.int .i64)), .sl opLk]
def uI : E := .bin .zadd .i64 (.var 1) (.bin .zmul .i64 (.lit (-1)) (.var 4))
def uX : E := .var 3
def uT : E := rdAt uI
def uD : List E := rdD uI
def uH : E := hearE uX uD uT
def bouBx : List Box := [⟨false, .ro (cells35.map ofLeaf)⟩, ⟨false, .arr 0 opLk (.var 1)⟩, ⟨true, .obj 1 [uX]⟩]
def bouFs : Fs := [(one1 (goodE uX), true), (eq0 (winE uX) (.var 0), true), isE (needE uX) 1]
def bouT : TmN := ⟨⟨125, [(6, .int .i64 uI), (1, .inp 1 13 0 (.var 1) (.var 1) (.var 2)), (5, .ptr 2 0)],
  bouBx, bouFs ++ [(lt0 uI (.lit 0), false), (lt0 (.var 4) (.lit 0), false)]⟩, .var 4, .lit 10, .lit 10, noneR uX uT uD :: noneR uH uT uD :: (goodR uX uD uT (.var 0) (.lit 1) ++ (List.range 6).map (heardR uX uD uT))⟩
def bouP : Path := [1, 1, 1, 0, 1, 0]
def bouC : CutN := ⟨bouP, [bouT]⟩
def bouAx : Fs := lenU 1 ++ phFacts bouSh 0
def setS (l : List E) : List SV := (List.range 11).map fun j => .int (knd j) (l.getD j (.lit 0))
def fndD (k : Nat) : E := fndE uX uT k uD
def bouBx2 (m : Nat) : List Box := bouBx ++ (if m = 0 then [] else [⟨true, .cells ((List.range m).flatMap fun i => setS (qfS uX uT i)) 32 12⟩])
def bouF2 (m f : Nat) : Fs := bouFs ++ [qnIs uX uT m, (lt0 uI (.lit 0), false), (lt0 (.var 4) (.lit 1), false)] ++ (if f = 0 then [isE (fndD m) 1] else [(eq0 (.var 5) (.lit 0), false)])
def bouS2 (m k f : Nat) (fd : E) : List (Nat × SV) := [(10, .int .i64 (.lit (Int.ofNat k))), (8, if m = 0 then .raw (.slice none 0 0) else .slice 3 0 m none), (7, .int .i64 (if f = 0 then .lit 0 else .var 5)), (6, .int .i64 uI), (9, .bool fd), (1, .inp 1 13 0 (.var 1) (.var 1) (.var 2)), (5, .ptr 2 0)]
def bouT2 (m k f : Nat) : TmN := ⟨⟨125, bouS2 m k f (fndD k), bouBx2 m, bouF2 m f⟩, .var 4, .lit (Int.ofNat (m - k)), .lit 9, if k < m then nextR uX uT uD m k else lenR uX uT m⟩
def bouT3 (m k j f : Nat) : TmN := ⟨⟨125, (11, .int .i64 (.lit (Int.ofNat j))) :: bouS2 m k f (fndD (k + 1)), bouBx2 m, bouF2 m f⟩, .var 4, .lit (Int.ofNat (m - k)), .lit (Int.ofNat (k - j)), if j < k then [apartR uX uT m k j] else []⟩
def bouP2 : Path := bouP ++ [0, 1, 0, 0, 1, 1, 1, 0, 1, 0]
def bouP3 : Path := bouP2 ++ [0, 1, 0, 0, 1, 1, 0]
def bouC2 : CutN := ⟨bouP2, (List.range 6).flatMap fun m => (List.range (m + 1)).flatMap fun k => (List.range 2).map fun f => bouT2 m k f⟩
def bouC3 : CutN := ⟨bouP3, (List.range 6).flatMap fun m => (List.range m).flatMap fun k => (List.range (k + 1)).flatMap fun j => (List.range 2).map fun f => bouT3 m k j f⟩
def bouCs : List CutN := [bouC, bouC2, bouC3]
def bouR0 : List Rule := newRs (.var 0) (.lit 1)
noncomputable def bouCode : Code := (Tryd.f4.body).getD .skip
set_option maxRecDepth 1000000 in
theorem bou_enter : ((execP Tryd.prog (tabGl tabs35 0) callM (noKeep 4) 80 bouCode (entrySt Tryd.f4 (phArgs tabs35.length (phSize bouSh) none bouSh 0) (arrHp tabs35 (phKs bouSh) (phSize bouSh)) (([] ++ bouAx) ++ (lenU (phSize bouSh) ++ phFacts bouSh 0)))).all (leafOkN (tabGl tabs35 0) bouCs (lawEnd Tryd.prog Tryd.f4) (phSize bouSh + 2) bouR0 (fun _ _ _ => true))) = true := by kernel_rfl
noncomputable abbrev bouOk (c : CutN) (t : TmN) (g : Nat → Value) : Bool := roundOkN Tryd.prog (tabGl tabs35 0) callM (noKeep 4) 80 bouCs (lawEnd Tryd.prog Tryd.f4) (phSize bouSh + 2) bouCode ([] ++ bouAx) c t g
set_option maxRecDepth 1000000 in
theorem bou_round (g : Nat → Value) : bouOk bouC bouT g = true := by kernel_rfl
noncomputable def bouB2 (m : Nat) (g : Nat → Value) : Bool := (List.range (m + 1)).all fun k => (List.range 2).all fun f => bouOk bouC2 (bouT2 m k f) g
noncomputable def bouB3 (m : Nat) (g : Nat → Value) : Bool := (List.range m).all fun k => (List.range (k + 1)).all fun j => (List.range 2).all fun f => bouOk bouC3 (bouT3 m k j f) g
set_option maxRecDepth 1000000 in
theorem bou_body : Tryd.f4.body = some bouCode := by kernel_rfl
theorem len_ax {ns : List Int} {m cap : Nat} {A : Nat → Nat → Int → Int} {w : World} {hs : List Ph} {b off : Nat} {l : Nat} (ht : TabsIn tabs35 w) (hA : ArrIn w (phKs hs) b off m cap A) (hns : phFits hs ns) (hl : ns.length = phSize hs) (hll : phSize hs = l) : SX.FsOk (envA FN (ns ++ [(m : Int), (cap : Int)]) A) (lenU l ++ phFacts hs 0) := by
  subst hll
  obtain ⟨_, _, s3, _, _⟩ := arr_start (m := phSize hs) tabs35 tabs35_nd ht hA FN (ns ++ [(m : Int), (cap : Int)]) (by rw [← hl]; simp) (by rw [← hl]; simp)
  obtain ⟨a1, a2⟩ := ph_append (hs := hs) (ms := [(m : Int), (cap : Int)]) (ss := ([] : List Value)) hl
  exact fsOk_app s3 (phFacts_ok (a2.2 hns))
theorem bou_rules {ρ : Env} (hf : ρ.fn = FN) {c : CutN} (hc : c ∈ bouCs) {t : TmN} (ht : t ∈ c.ts) : ∀ r ∈ t.rs, RuleOk ρ r := by
  intro r hr
  simp only [bouCs, List.mem_cons, List.not_mem_nil, or_false] at hc
  rcases hc with rfl | rfl | rfl
  · obtain rfl : t = bouT := by simpa [bouC] using ht
    rcases List.mem_cons.1 (show r ∈ noneR uX uT uD :: noneR uH uT uD :: (goodR uX uD uT (.var 0) (.lit 1) ++ (List.range 6).map (heardR uX uD uT)) from hr) with rfl | hr
    · exact noneR_ok hf _ _ _
    · rcases List.mem_cons.1 hr with rfl | hr
      · exact noneR_ok hf _ _ _
      · rcases List.mem_append.1 hr with hr | hr
        · exact goodR_ok hf r hr
        · obtain ⟨m, _, rfl⟩ := List.mem_map.1 hr
          exact heardR_ok hf _ _ rfl m
  · obtain ⟨m, _, ht⟩ := List.mem_flatMap.1 (show t ∈ (List.range 6).flatMap fun m => (List.range (m + 1)).flatMap fun k => (List.range 2).map fun f => bouT2 m k f from ht)
    obtain ⟨k, _, ht⟩ := List.mem_flatMap.1 ht
    obtain ⟨f, _, rfl⟩ := List.mem_map.1 ht
    have hr : r ∈ if k < m then nextR uX uT uD m k else lenR uX uT m := hr
    split at hr
    · rename_i h
      exact nextR_ok hf rfl h r hr
    · exact lenR_ok hf _ _ _ r hr
  · obtain ⟨m, _, ht⟩ := List.mem_flatMap.1 (show t ∈ (List.range 6).flatMap fun m => (List.range m).flatMap fun k => (List.range (k + 1)).flatMap fun j => (List.range 2).map fun f => bouT3 m k j f from ht)
    obtain ⟨k, hk, ht⟩ := List.mem_flatMap.1 ht
    obtain ⟨j, _, ht⟩ := List.mem_flatMap.1 ht
    obtain ⟨f, _, rfl⟩ := List.mem_map.1 ht
    have hr : r ∈ if j < k then [apartR uX uT m k j] else [] := hr
    split at hr
    · rename_i h
      obtain rfl := List.mem_singleton.1 hr
      exact apartR_ok hf _ _ (List.mem_range.1 hk) h
    · cases hr
end Go.Proofs.YtbjficjcgpgcbaaDoor
