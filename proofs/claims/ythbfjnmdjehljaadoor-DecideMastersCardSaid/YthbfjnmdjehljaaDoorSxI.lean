/- Arithmetic, '==', conversions, builtins, slices, composite values: what they yield. Of no program. -/
import Derived.Test.YthbfjnmdjehljaaDoorSxP
namespace Go.Proofs.YthbfjnmdjehljaaDoor.SX
open Go
set_option linter.unusedVariables false

section
variable {P : Program} {ρ : Env} {β : Bm} {w : World} {n : Nat}

theorem wf_of_wrap (k : IntKind) (x : Int) : (Lit.int k (k.wrap x)).wf = true := wf_wrap k x

theorem notZero_spec {e : E} (ρ : Env) (h : notZero e = true) : e.ev ρ ≠ 0 := by
  unfold notZero at h
  split at h
  · simpa [E.ev] using h
  · cases h
theorem notNeg_spec {k : IntKind} {e : E} (hw : (Lit.int k (e.ev ρ)).wf = true) (h : notNeg k e = true) : 0 ≤ e.ev ρ := by
  unfold notNeg at h
  rw [Bool.or_eq_true] at h
  rcases h with h | h
  · rw [wf_iff] at hw
    have : k.min = 0 := by cases k <;> first | rfl | (simp [unsignedK] at h)
    omega
  · split at h
    · simp [E.ev]
    · cases h

theorem intS_run {op : BinOp} {k : IntKind} {a b : E} {r : SV} (ha : (Lit.int k (a.ev ρ)).wf = true) (hb : (Lit.int k (b.ev ρ)).wf = true) (h : intS op k a b = some r) (t : TypeId) (w : World) :
    (binOp op t (.int k (a.ev ρ)) (.int k (b.ev ρ))).run P w = .ok (r.ev ρ β) w ∧ r.ok ρ n := by
  cases op <;> simp only [intS, Option.some.injEq, reduceCtorEq] at h
  case add => subst h; exact ⟨by simp [binOp, Op.intArith, SV.ev, mk_ev, BOp.ev], by simp only [SV.ok, mk_ev]; exact wf_of_wrap _ _⟩
  case sub => subst h; exact ⟨by simp [binOp, Op.intArith, SV.ev, mk_ev, BOp.ev], by simp only [SV.ok, mk_ev]; exact wf_of_wrap _ _⟩
  case mul => subst h; exact ⟨by simp [binOp, Op.intArith, SV.ev, mk_ev, BOp.ev], by simp only [SV.ok, mk_ev]; exact wf_of_wrap _ _⟩
  case and => subst h; exact ⟨by simp [binOp, Op.intBits, SV.ev, mk_ev, BOp.ev], by simp only [SV.ok, mk_ev]; exact wf_of_wrap _ _⟩
  case or => subst h; exact ⟨by simp [binOp, Op.intBits, SV.ev, mk_ev, BOp.ev], by simp only [SV.ok, mk_ev]; exact wf_of_wrap _ _⟩
  case xor => subst h; exact ⟨by simp [binOp, Op.intBits, SV.ev, mk_ev, BOp.ev], by simp only [SV.ok, mk_ev]; exact wf_of_wrap _ _⟩
  case andNot => subst h; exact ⟨by simp [binOp, Op.intBits, SV.ev, mk_ev, BOp.ev], by simp only [SV.ok, mk_ev]; exact wf_of_wrap _ _⟩
  case quo =>
    split at h
    · rename_i hz
      obtain rfl := Option.some.inj h
      have := notZero_spec ρ hz
      exact ⟨by simp [binOp, Op.intDiv, SV.ev, mk_ev, BOp.ev, this], by simp only [SV.ok, mk_ev]; exact wf_of_wrap _ _⟩
    · cases h
  case rem =>
    split at h
    · rename_i hz
      obtain rfl := Option.some.inj h
      have := notZero_spec ρ hz
      exact ⟨by simp [binOp, Op.intDiv, SV.ev, mk_ev, BOp.ev, this], by simp only [SV.ok, mk_ev]; exact wf_rem _ _ _ ha⟩
    · cases h
  case eql =>
    subst h
    refine ⟨?_, trivial⟩
    simp only [binOp, Op.intCmp, SV.ev, mk_ev, BOp.ev, ne_eq, not_true_eq_false, if_false, Sem.run_pure]
    by_cases he : a.ev ρ = b.ev ρ <;> simp [he]
  case neq =>
    subst h
    refine ⟨?_, trivial⟩
    simp only [binOp, Op.intCmp, SV.ev, neg_bool, mk_ev, BOp.ev, ne_eq, not_true_eq_false, if_false, Sem.run_pure]
    by_cases he : a.ev ρ = b.ev ρ <;> simp [he]
  case lss =>
    subst h
    refine ⟨?_, trivial⟩
    simp only [binOp, Op.intCmp, SV.ev, mk_ev, BOp.ev, ne_eq, not_true_eq_false, if_false, Sem.run_pure]
    by_cases he : a.ev ρ < b.ev ρ <;> simp [he]
  case gtr =>
    subst h
    refine ⟨?_, trivial⟩
    simp only [binOp, Op.intCmp, SV.ev, mk_ev, BOp.ev, ne_eq, not_true_eq_false, if_false, Sem.run_pure]
    by_cases he : b.ev ρ < a.ev ρ <;> simp [he]
  case leq =>
    subst h
    refine ⟨?_, trivial⟩
    simp only [binOp, Op.intCmp, SV.ev, neg_bool, mk_ev, BOp.ev, ne_eq, not_true_eq_false, if_false, Sem.run_pure]
    by_cases he : b.ev ρ < a.ev ρ
    · have h1 : ¬ a.ev ρ ≤ b.ev ρ := by omega
      simp [he, h1]
    · have h1 : a.ev ρ ≤ b.ev ρ := by omega
      simp [he, h1]
  case geq =>
    subst h
    refine ⟨?_, trivial⟩
    simp only [binOp, Op.intCmp, SV.ev, neg_bool, mk_ev, BOp.ev, ne_eq, not_true_eq_false, if_false, Sem.run_pure]
    by_cases he : a.ev ρ < b.ev ρ
    · have h1 : ¬ a.ev ρ ≥ b.ev ρ := by omega
      simp [he, h1]
    · have h1 : a.ev ρ ≥ b.ev ρ := by omega
      simp [he, h1]

theorem isB'_ev {e : E} (h : isB' e = true) : e.ev ρ = 0 ∨ e.ev ρ = 1 := by
  unfold isB' at h
  split at h
  · simpa [E.ev] using h
  · exact E.isB_ev ρ h

theorem toB_ev (e : E) : ((toB e).ev ρ = 0 ∨ (toB e).ev ρ = 1) ∧ ((toB e).ev ρ ≠ 0 ↔ e.ev ρ ≠ 0) := by
  unfold toB
  split
  · rename_i h; exact ⟨isB'_ev h, Iff.rfl⟩
  · simp only [E.ev, BOp.ev]
    by_cases h : e.ev ρ = 0 <;> simp [h]
theorem eqS_run : ∀ (d m : Nat) (t : TypeId) (x y : SV) (e : E), x.ok ρ n → y.ok ρ n → eqS P d t x y = some e →
    ∀ w : World, (Op.equalIn (d + m) t (x.ev ρ β) (y.ev ρ β)).run P w = .ok (decide (e.ev ρ ≠ 0)) w
  | 0, _, _, _, _, _, _, _, h => by simp [eqS] at h
  | d + 1, m, t, x, y, e, hx, hy, h => by
    intro w
    rw [show d + 1 + m = (d + m) + 1 by omega]
    unfold eqS at h
    split at h
    · rename_i a b hu
      obtain rfl := Option.some.inj h
      simp only [SV.ev]
      rw [run_equalIn_bool' w _ _ _ _ hu]
      congr 1
      simp only [mk_ev, BOp.ev]
      obtain ⟨a1, a2⟩ := toB_ev (ρ := ρ) a
      obtain ⟨b1, b2⟩ := toB_ev (ρ := ρ) b
      have ea : decide (a.ev ρ ≠ 0) = decide ((toB a).ev ρ ≠ 0) := decide_eq_decide.2 a2.symm
      have eb : decide (b.ev ρ ≠ 0) = decide ((toB b).ev ρ ≠ 0) := decide_eq_decide.2 b2.symm
      rw [ea, eb]
      rcases a1 with h1 | h1 <;> rcases b1 with h2 | h2 <;> simp [h1, h2]
    · rename_i k k1 a k2 b hu
      split at h
      · rename_i hk
        obtain rfl := kTag_inj hk
        obtain rfl := Option.some.inj h
        simp only [SV.ev]
        rw [run_equalIn_int w _ _ _ _ _ _ hu]
        congr 1
        simp only [mk_ev, BOp.ev]
        by_cases he : a.ev ρ = b.ev ρ <;> simp [he]
      · cases h
    · rename_i hu; obtain rfl := Option.some.inj h; simp [SV.ev, Op.equalIn, run_underlying hu w, E.ev]
    · rename_i hu; obtain rfl := Option.some.inj h; simp [SV.ev, Op.equalIn, run_underlying hu w, E.ev]
    · rename_i hu; obtain rfl := Option.some.inj h; simp [SV.ev, Op.equalIn, run_underlying hu w, E.ev]
    · rename_i hu; obtain rfl := Option.some.inj h; simp [SV.ev, Op.equalIn, run_underlying hu w, E.ev]
    · rename_i b o l c hu; obtain rfl := Option.some.inj h; cases c <;> simp [SV.ev, Op.equalIn, run_underlying hu w, E.ev]
    · rename_i b o l c _ _ hu; obtain rfl := Option.some.inj h; cases c <;> simp [SV.ev, Op.equalIn, run_underlying hu w, E.ev]
    · rename_i fs l k hu
      split at h
      · cases h
      · rename_i hst
        have hst : P.stoodInHeld t = false := by simpa using hst
        have hfo : P.fieldsOf t = fs := by unfold Program.fieldsOf; rw [hu]
        simp only [SV.ev]
        rw [run_equalIn_struct w _ _ _ _ (by rw [hfo]; exact hu) hst, hfo]
        generalize fs.toList = fl at h
        clear hu hfo hst
        induction fl generalizing e w with
        | nil => obtain rfl := Option.some.inj h; simp [Op.eqFields, E.ev]
        | cons f fl ih =>
          simp only [List.foldr_cons] at h
          by_cases hn : f.name = "_"
          · rw [if_pos hn] at h
            simp only [Op.eqFields, hn, ne_eq, not_true_eq_false, if_false]
            exact ih e w h
          · rw [if_neg hn] at h
            split at h
            · rename_i u v hu hv
              split at h
              · rename_i e1 r he1 hr
                obtain rfl := Option.some.inj h
                have pu := partS_run (β := β) (show SV.oks ρ n l from hx) hu [] w
                have pv := partS_run (β := β) (show SV.oks ρ n k from hy) hv [] w
                rw [List.append_nil] at pu pv
                have q := eqS_run d m f.type u v e1 pu.2 pv.2 he1 w
                simp only [Op.eqFields, ne_eq, hn, not_false_eq_true, if_true, Sem.run_bind, pu.1, pv.1, Result.andThen_ok, q, Sem.run_ite]
                have ih' := ih r w hr
                by_cases hz : e1.ev ρ = 0
                · simp [hz, mk_ev, BOp.ev]
                · simp only [ne_eq, hz, not_false_eq_true, decide_true, Bool.not_true, Bool.false_eq_true, if_false, ih', mk_ev, BOp.ev]
                  congr 1
                  by_cases hr0 : r.ev ρ = 0 <;> simp [hr0]
              · cases h
            · cases h
    · cases h

theorem bytesV_eq : ∀ {l m : List E}, (∀ x ∈ E.evs ρ l, 0 ≤ x ∧ x < 256) → (∀ x ∈ E.evs ρ m, 0 ≤ x ∧ x < 256) → ((bytesV (E.evs ρ l)).toList == (bytesV (E.evs ρ m)).toList) = decide ((eqBytes l m).ev ρ ≠ 0) := by
  have hto : ∀ l : List Int, (bytesV l).toList = l.map fun n => UInt8.ofNat n.toNat := fun l => by rw [ByteArray.toList_eq]; simp [bytesV]
  intro l
  induction l with
  | nil =>
    intro m _ _
    rw [hto, hto]
    cases m with
    | nil => rfl
    | cons b m => rfl
  | cons a l ih =>
    intro m hl hm
    rw [hto, hto]
    cases m with
    | nil => rfl
    | cons b m =>
      have ha := hl (a.ev ρ) (List.mem_cons_self ..)
      have hb := hm (b.ev ρ) (List.mem_cons_self ..)
      have ih' := ih (m := m) (fun x hx => hl x (List.mem_cons_of_mem _ hx)) (fun x hx => hm x (List.mem_cons_of_mem _ hx))
      rw [hto, hto] at ih'
      have hab : (UInt8.ofNat (a.ev ρ).toNat == UInt8.ofNat (b.ev ρ).toNat) = decide (a.ev ρ = b.ev ρ) := by
        by_cases he : a.ev ρ = b.ev ρ
        · simp [he]
        · simp only [he, decide_false, beq_eq_false_iff_ne, ne_eq]
          intro h
          have h2 := congrArg UInt8.toNat h
          simp only [UInt8.toNat_ofNat'] at h2
          rw [Nat.mod_eq_of_lt (by omega), Nat.mod_eq_of_lt (by omega)] at h2
          omega
      simp only [E.evs, List.map_cons, List.cons_beq_cons, hab, ih', eqBytes, mk_ev, BOp.ev]
      by_cases he : a.ev ρ = b.ev ρ <;> by_cases hz : (eqBytes l m).ev ρ = 0 <;> simp [he, hz]
theorem binS_run {op : BinOp} {t : TypeId} {x y r : SV} (hx : x.ok ρ n) (hy : y.ok ρ n) (h : binS P op t x y = some r) (w : World) :
    (binOp op t (x.ev ρ β) (y.ev ρ β)).run P w = .ok (r.ev ρ β) w ∧ r.ok ρ n := by
  unfold binS at h
  split at h
  · split at h
    · rename_i k a j b hn
      obtain rfl := Option.some.inj h
      have := notNeg_spec hy hn
      refine ⟨?_, by simp only [SV.ok, mk_ev]; exact wf_of_wrap _ _⟩
      simp only [SV.ev, binOp, Op.shift, mk_ev, BOp.ev]
      rw [if_neg (by omega)]
      rfl
    · cases h
  · split at h
    · rename_i k a j b hn
      obtain rfl := Option.some.inj h
      have := notNeg_spec hy hn
      refine ⟨?_, by simp only [SV.ok, mk_ev]; exact wf_shr _ _ _ hx⟩
      simp only [SV.ev, binOp, Op.shift, mk_ev, BOp.ev]
      rw [if_neg (by omega)]
      rfl
    · cases h
  · split at h
    · rename_i hk
      obtain rfl := kTag_inj hk
      exact intS_run hx hy h t w
    · cases h
  · rename_i l m _
    obtain rfl := Option.some.inj h
    refine ⟨?_, trivial⟩
    simp only [SV.ev, binOp, Op.stringOp, Sem.run_pure]
    rw [bytesV_eq hx hy]
  · rename_i hne hstr
    cases he : eqS P 8 t x y with
    | none => simp [he] at h
    | some e =>
      simp only [he, Option.map_some, Option.some.injEq] at h
      subst h
      have q := eqS_run (β := β) 8 9992 t x y e hx hy he w
      refine ⟨?_, trivial⟩
      have hb : binOp .eql t (x.ev ρ β) (y.ev ρ β) = (do pure (.bool (← Op.equal t (x.ev ρ β) (y.ev ρ β)))) := by
        unfold eqS at he
        split at he <;> first
          | rfl
          | (cases he; done)
          | (exact (hne _ _ _ _ rfl rfl).elim)
          | skip
        all_goals first | (simp only [SV.ev]; rfl) | skip
      rw [hb]
      simp only [Sem.run_bind, Op.equal, Op.maxDepth, q, Result.andThen_ok, Sem.run_pure, SV.ev]
  · rename_i hne
    cases he : eqS P 8 t x y with
    | none => simp [he] at h
    | some e =>
      simp only [he, Option.map_some, Option.some.injEq] at h
      subst h
      have q := eqS_run (β := β) 8 9992 t x y e hx hy he w
      refine ⟨?_, trivial⟩
      have hb : binOp .neq t (x.ev ρ β) (y.ev ρ β) = (do pure (.bool (!(← Op.equal t (x.ev ρ β) (y.ev ρ β))))) := by
        unfold eqS at he
        split at he <;> first
          | rfl
          | (cases he; done)
          | (exact (hne _ _ _ _ rfl rfl).elim)
          | skip
        all_goals first | (simp only [SV.ev]; rfl) | skip
      rw [hb]
      simp only [Sem.run_bind, Op.equal, Op.maxDepth, q, Result.andThen_ok, Sem.run_pure, SV.ev, neg_bool]
  · cases h
theorem unS_run {op : UnOp} {s r : SV} (h : unS op s = some r) (w : World) : (Op.unary op (s.ev ρ β)).run P w = .ok (r.ev ρ β) w ∧ r.ok ρ n := by
  unfold unS at h
  split at h
  · obtain rfl := Option.some.inj h
    exact ⟨by simp [SV.ev, Op.unary, Op.intArith, mk_ev, BOp.ev, E.ev], by simp only [SV.ok, mk_ev]; exact wf_of_wrap _ _⟩
  · obtain rfl := Option.some.inj h
    exact ⟨by simp [SV.ev, Op.unary, Op.intBits, mk_ev, BOp.ev, E.ev], by simp only [SV.ok, mk_ev]; exact wf_of_wrap _ _⟩
  · obtain rfl := Option.some.inj h
    exact ⟨by simp only [SV.ev, Op.unary, neg_bool, Sem.run_pure], trivial⟩
  · cases h
theorem convS_run {src dst : TypeId} {s r : SV} (h : convS P src dst s = some r) (w : World) : (convert src dst (s.ev ρ β)).run P w = .ok (r.ev ρ β) w ∧ r.ok ρ n := by
  unfold convS at h
  split at h
  · rename_i d k k' e hs hd
    obtain rfl := Option.some.inj h
    refine ⟨?_, by simp only [SV.ok, mk_ev]; exact wf_of_wrap _ _⟩
    simp [convert, run_underlying hs w, run_underlying hd w, SV.ev, Conv.intToInt, mk_ev, BOp.ev]
  · cases h
end
end Go.Proofs.YthbfjnmdjehljaaDoor.SX
