/- Records of package foreign: Best. -/
import Derived.Test.YtbjficjcgpgcbaaDoorFs
namespace Go.Proofs.YtbjficjcgpgcbaaDoor
open Go Go.RowKit SX Frm Frn
set_option linter.unusedVariables false
set_option linter.unusedSimpArgs false

/-! ### Less as a name -/
theorem ok_ds {d : List Int} (h : fitsK ks11 d) : DsLaw.Ok (dsOf d) := by
  obtain ⟨h0, _, h1, _, h2, _, h3, _, h4, _, h5, _, h6, _, h7, _, h8, _, h9, _, h10, _⟩ := h
  have i : ∀ n : Int, (Lit.int .i64 n).wf = true → DsLaw.I64 n := fun n h => by
    have := (wf_iff .i64 n).1 h
    unfold DsLaw.I64
    simpa [IntKind.min, IntKind.max, IntKind.bits, IntKind.signed] using this
  have u : ∀ n : Int, (Lit.int .u64 n).wf = true → DsLaw.U64 n := fun n h => by
    have := (wf_iff .u64 n).1 h
    unfold DsLaw.U64
    simpa [IntKind.min, IntKind.max, IntKind.bits, IntKind.signed] using this
  exact ⟨i _ h0, i _ h1, i _ h2, i _ h3, i _ h4, u _ h5, i _ h6, u _ h7, i _ h8, u _ h9, i _ h10⟩
theorem fields_tabs {w : World} (h : TabsIn tabs35 w) : Fields w := by
  intro i hi
  have hc : cells35[i]? = some (.int .i64 (DsLaw.F i : Nat)) := by
    match i, hi with
    | 0, _ => rfl | 1, _ => rfl | 2, _ => rfl | 3, _ => rfl | 4, _ => rfl | 5, _ => rfl | 6, _ => rfl | 7, _ => rfl | 8, _ => rfl | 9, _ => rfl | 10, _ => rfl | 11, _ => rfl | 12, _ => rfl | 13, _ => rfl
    | n + 14, h => exact absurd h (by omega)
  exact h _ (List.mem_cons_self ..) i _ hc
def spLess : Spc := fun f args hp fs => match args with
  | [.agg a, .agg b] => if f = 24 then (match takeK ks11 a, takeK ks11 b with
    | some x, some y => some ⟨.bool (lessE (canons fs x) (canons fs y)), hp, fs⟩
    | _, _ => none) else none
  | _ => none
theorem spLess_ok {ρ : Env} {w0 : World} {M : Nat → Prop} {gl : Gl} (hf : ρ.fn = FN) (hT : ∀ w', Kept w0 M w' → TabsIn tabs35 w') : SpecOk Tryd.prog ρ w0 M gl spLess := fun f args hp fs o h β w hh hfs ha hg => by
  unfold spLess at h
  split at h
  · rename_i a b
    split at h
    · rename_i hfe
      subst hfe
      split at h
      · rename_i x y hx hy
        obtain rfl := Option.some.inj h
        obtain ⟨a1, a2, a3⟩ := takeK_spec (β := β) hx ha.1
        obtain ⟨b1, b2, b3⟩ := takeK_spec (β := β) hy ha.2.1
        have hargs : SV.evs ρ β [.agg a, .agg b] = [.agg (dsVals (E.evs ρ x)).toArray, .agg (dsVals (E.evs ρ y)).toArray] := by
          simp only [SV.evs, SV.ev, a1, b1]; rfl
        rw [hargs]
        refine (less_any (dsOf (E.evs ρ x)) (dsOf (E.evs ρ y)) (ok_ds a2) (ok_ds b2) w (fields_tabs (hT w hh.kept))).mono fun e w' ⟨he, hb⟩ => ⟨β, Ext.refl _ _, Nat.le_refl _, Stay.refl _, hh.below hb, hfs, trivial, ?_⟩
        rw [he]
        show Ending.returned (.bool (decide (DsLaw.lt (dsOf (E.evs ρ x)) (dsOf (E.evs ρ y))))) = Ending.returned (.bool (decide ((lessE _ _).ev ρ ≠ 0)))
        congr 2
        have hl : ∀ (z : List E) (h : z.length = ks11.length), (canons fs z).length = 11 := fun z h => by unfold canons; rw [List.length_map, h]; rfl
        have := lessE_ev hf (hl x a3) (hl y b3)
        rw [canons_ev hfs, canons_ev hfs] at this
        have e2 : ltB (E.evs ρ x) (E.evs ρ y) = decide (DsLaw.lt (dsOf (E.evs ρ x)) (dsOf (E.evs ρ y))) := rfl
        by_cases hl : DsLaw.lt (dsOf (E.evs ρ x)) (dsOf (E.evs ρ y))
        · rw [decide_eq_true hl, decide_eq_true (this.2 (by rw [e2]; exact decide_eq_true hl))]
        · rw [decide_eq_false hl, decide_eq_false (fun h => hl (of_decide_eq_true (e2 ▸ this.1 h)))]
      · cases h
    · cases h
  · cases h
/-! ### The run of Best, of records as an object -/
def spBin : SpcT := orT spF (ofSpc spLess)
def bestHp : Hp := ⟨1, fun _ => ⟨true, .obj 1 [.var 0]⟩⟩
def qfs (i : Nat) : List E := (List.range 11).map fun j => qfE (.var 0) (.var 1) i j
def bestF (fs : Fs) : Nat → List Nat → Option Nat
  | b, [] => some b
  | b, i :: l => match decideE fs (lessE (qfs i) (qfs b)) with
    | some true => bestF fs i l
    | some false => bestF fs b l
    | none => none
def numQ (fs : Fs) : Option Nat := (List.range 6).find? fun m => decideE fs (eq0 (qnE (.var 0) (.var 1)) (litN m)) == some true
def zeroS : List SV := dsS fun _ => .lit 0
def bestEnd (o : Out) : Bool :=
  (match o.hp.at 0 with
    | some ⟨true, .obj 1 [.var 0]⟩ => true
    | _ => false) && (match numQ o.fs with
    | some 0 => SV.fit o.fs (fun i => .var i) id o.hp.n (.tuple [.agg zeroS, .bool (.lit 0)]) o.v
    | some (m + 1) => (match bestF o.fs 0 (List.range' 1 m) with
      | some i => SV.fit o.fs (fun i => .var i) id o.hp.n (.tuple [.agg (dsS (qfE (.var 0) (.var 1) i)), .bool (.lit 1)]) o.v
      | none => false)
    | none => false)
noncomputable def bestT : T Out := callH Tryd.prog [] okF spBin noKeep 80 30 15 [.ptr 0 0, .int .i64 (.var 1)] bestHp [rngV 1]
set_option maxRecDepth 1000000 in
theorem best_run : bestT.all bestEnd = true := by kernel_rfl
end Go.Proofs.YtbjficjcgpgcbaaDoor
