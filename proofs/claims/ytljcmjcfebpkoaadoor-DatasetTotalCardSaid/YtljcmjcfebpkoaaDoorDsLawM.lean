/- Compare from both sides; Compare by the quality. No program in sight. -/
import Derived.Test.YtljcmjcfebpkoaaDoorDsLawB
namespace Go.Proofs.YtljcmjcfebpkoaaDoor.DsLaw

/-- The mirrored result. -/
def mir : Nat → Int
  | 0 => 0 | 1 => 3 | 2 => 4 | 3 => 1 | 4 => 2 | _ => 5
theorem cmp_range (a b : DS) : ∃ n : Nat, cmp a b = n ∧ n < 6 := by
  have hb : ∀ d m x y, (x = 3 ∧ y = 4) ∨ (x = 1 ∧ y = 2) → ∃ n : Nat, behind d m x y = n ∧ n < 6 := by
    intro d m x y h
    unfold behind
    rcases h with ⟨rfl, rfl⟩ | ⟨rfl, rfl⟩
    · split
      · exact ⟨3, rfl, by omega⟩
      · split
        · exact ⟨4, rfl, by omega⟩
        · exact ⟨5, rfl, by omega⟩
    · split
      · exact ⟨1, rfl, by omega⟩
      · split
        · exact ⟨2, rfl, by omega⟩
        · exact ⟨5, rfl, by omega⟩
  unfold cmp
  split
  · exact ⟨0, rfl, by omega⟩
  · split
    · split
      · exact ⟨1, rfl, by omega⟩
      · exact ⟨3, rfl, by omega⟩
    · split
      · exact hb _ _ _ _ (.inl ⟨rfl, rfl⟩)
      · split
        · exact hb _ _ _ _ (.inr ⟨rfl, rfl⟩)
        · split
          · exact ⟨2, rfl, by omega⟩
          · split
            · exact ⟨4, rfl, by omega⟩
            · exact ⟨5, rfl, by omega⟩
theorem cmp_same (a b : DS) : (cmp a b == 0) = decide (a = b) := by
  by_cases h : a = b
  · simp [cmp, h]
  · have : ¬ cmp a b = 0 := by
      unfold cmp behind
      rw [if_neg h]
      repeat' split
      all_goals decide
    simp [h, this]
theorem cmp_mirror (a b : DS) (n : Nat) (hn : cmp a b = n) : cmp b a = mir n := by
  have hm : ∀ k : Nat, cmp a b = k → k < 6 → n = k := fun k h _ => by omega
  by_cases hab : a = b
  · subst hab
    have h0 : cmp a a = 0 := by simp [cmp]
    obtain rfl : n = 0 := by omega
    exact h0
  · have hba : ¬ b = a := fun h => hab h.symm
    by_cases hg : a.gm = b.gm
    · have hg' : ¬ ¬ a.gm = b.gm := fun h => h hg
      have hg2 : ¬ ¬ b.gm = a.gm := fun h => h hg.symm
      have ea : cmp a b = if b.steps < a.steps then behind a (a.steps - b.steps) 3 4 else if a.steps < b.steps then behind b (b.steps - a.steps) 1 2 else if lexF a b 11 3 = -1 then 2 else if lexF a b 11 3 = 1 then 4 else 5 := by rw [cmp, if_neg hab, if_neg hg']
      have eb : cmp b a = if a.steps < b.steps then behind b (b.steps - a.steps) 3 4 else if b.steps < a.steps then behind a (a.steps - b.steps) 1 2 else if lexF b a 11 3 = -1 then 2 else if lexF b a 11 3 = 1 then 4 else 5 := by rw [cmp, if_neg hba, if_neg hg2]
      rw [ea] at hn
      rw [eb]
      by_cases h1 : b.steps < a.steps
      · rw [if_pos h1] at hn
        rw [if_neg (by omega), if_pos h1]
        unfold behind at hn ⊢
        split at hn
        · obtain rfl : n = 3 := by omega
          rw [if_pos ‹_›]; rfl
        · rw [if_neg ‹_›]
          split at hn
          · obtain rfl : n = 4 := by omega
            rw [if_pos ‹_›]; rfl
          · obtain rfl : n = 5 := by omega
            rw [if_neg ‹_›]; rfl
      · by_cases h2 : a.steps < b.steps
        · rw [if_neg h1, if_pos h2] at hn
          rw [if_pos h2]
          unfold behind at hn ⊢
          split at hn
          · obtain rfl : n = 1 := by omega
            rw [if_pos ‹_›]; rfl
          · rw [if_neg ‹_›]
            split at hn
            · obtain rfl : n = 2 := by omega
              rw [if_pos ‹_›]; rfl
            · obtain rfl : n = 5 := by omega
              rw [if_neg ‹_›]; rfl
        · rw [if_neg h1, if_neg h2] at hn
          rw [if_neg h2, if_neg h1]
          have hs := lexF_swap a b 3 11
          rcases lexF_range a b 3 11 with h | h | h
          · rw [if_pos h] at hn
            obtain rfl : n = 2 := by omega
            rw [if_neg (by omega), if_pos (by omega)]; rfl
          · rw [if_neg (by omega), if_neg (by omega)] at hn
            obtain rfl : n = 5 := by omega
            rw [if_neg (by omega), if_neg (by omega)]; rfl
          · rw [if_neg (by omega), if_pos h] at hn
            obtain rfl : n = 4 := by omega
            rw [if_pos (by omega)]; rfl
    · have ea : cmp a b = if lexF a b 0 6 < 0 then 1 else 3 := by rw [cmp, if_neg hab, if_pos hg]
      have eb : cmp b a = if lexF b a 0 6 < 0 then 1 else 3 := by rw [cmp, if_neg hba, if_pos (fun h => hg h.symm)]
      have hs := lexF_swap a b 6 0
      have hz : lexF a b 0 6 ≠ 0 := fun h => hg (lexF_zero a b 6 0 h 5 (by omega) (by omega))
      rw [ea] at hn
      rw [eb]
      by_cases h : lexF a b 0 6 < 0
      · rw [if_pos h] at hn
        obtain rfl : n = 1 := by omega
        rw [if_neg (by omega)]; rfl
      · rw [if_neg h] at hn
        obtain rfl : n = 3 := by omega
        rw [if_pos (by omega)]; rfl

/-- With different grandmasters Compare goes by Less, whatever the paths are. -/
theorem lt_gm (a b : DS) (hg : ¬ a.gm = b.gm) : lexF a b 0 11 = lexF a b 0 6 := by
  have hz : lexF a b 0 6 ≠ 0 := fun h => hg (lexF_zero a b 6 0 h 5 (by omega) (by omega))
  rw [show (11 : Nat) = 6 + 5 from rfl, lexF_split, if_neg hz]
theorem lt_iff (a b : DS) (hg : ¬ a.gm = b.gm) : lt a b ↔ lexF a b 0 6 < 0 := by unfold lt; rw [lt_gm a b hg]
theorem cmp_gm (a b : DS) (hg : ¬ a.gm = b.gm) : cmp a b = if lt a b then 1 else 3 := by
  have hab : ¬ a = b := fun h => hg (by rw [h])
  rw [cmp, if_neg hab, if_pos hg]
  simp only [lt_iff a b hg]
theorem lexF_congr (a a' b : DS) : ∀ n k, (∀ j, k ≤ j → j < k + n → get a (F j) = get a' (F j)) → lexF a b k n = lexF a' b k n
  | 0, _, _ => rfl
  | n + 1, k, h => by
    unfold lexF
    rw [h k (by omega) (by omega), lexF_congr a a' b n (k + 1) (fun j h1 h2 => h j (by omega) (by omega))]
/-- The same data set over another path. -/
def path (a : DS) (steps snd sp rcv rp : Int) : DS := ⟨a.p1, a.cls, a.acc, a.vr, a.p2, a.gm, steps, snd, sp, rcv, rp⟩
theorem cmp_path (a b : DS) (steps snd sp rcv rp : Int) (hg : ¬ a.gm = b.gm) : cmp (path a steps snd sp rcv rp) b = cmp a b := by
  have hg' : ¬ (path a steps snd sp rcv rp).gm = b.gm := hg
  have e : lexF (path a steps snd sp rcv rp) b 0 6 = lexF a b 0 6 := lexF_congr (path a steps snd sp rcv rp) a b 6 0 (fun j _ h => by
    match j, h with
    | 0, _ => rfl | 1, _ => rfl | 2, _ => rfl | 3, _ => rfl | 4, _ => rfl | 5, _ => rfl)
  rw [cmp_gm _ _ hg, cmp_gm _ _ hg']
  simp only [lt_iff _ _ hg, lt_iff _ _ hg', e]
end Go.Proofs.YtljcmjcfebpkoaaDoor.DsLaw
