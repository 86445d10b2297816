/- The plain law of package dataset: how data sets are compared, and what follows. No program in sight. -/
namespace Go.Proofs.YthbfjnmdjehljaaDoor

structure DS where
  (p1 cls acc vr p2 gm steps snd sp rcv rp : Int)
  deriving DecidableEq

namespace DsLaw

def I64 (n : Int) : Prop := -9223372036854775808 ≤ n ∧ n ≤ 9223372036854775807
def U64 (n : Int) : Prop := 0 ≤ n ∧ n ≤ 18446744073709551615
structure Ok (d : DS) : Prop where
  p1 : I64 d.p1
  cls : I64 d.cls
  acc : I64 d.acc
  vr : I64 d.vr
  p2 : I64 d.p2
  gm : U64 d.gm
  steps : I64 d.steps
  snd : U64 d.snd
  sp : I64 d.sp
  rcv : U64 d.rcv
  rp : I64 d.rp

def get (d : DS) : Nat → Int
  | 0 => d.p1 | 1 => d.cls | 2 => d.acc | 3 => d.vr | 4 => d.p2 | 5 => d.gm | 6 => d.steps | 7 => d.snd | 8 => d.sp | 9 => d.rcv | _ => d.rp
def up (n : Int) : Int := n + 9223372036854775808
def rk (d : DS) (i : Nat) : Int := if i = 5 ∨ i = 7 ∨ i = 9 then get d i else up (get d i)
def cmpI (a b : Int) : Int := if a < b then -1 else if b < a then 1 else 0
theorem cmpI_rk (a b : DS) (i : Nat) : cmpI (rk a i) (rk b i) = cmpI (get a i) (get b i) := by
  unfold rk
  split
  · rfl
  · unfold cmpI up; split <;> split <;> (try split) <;> (try split) <;> first | rfl | omega

def FL : List Nat := [0, 1, 2, 3, 4, 5, 6, 7, 8, 9, 10, 7, 10, 8]
def F (k : Nat) : Nat := FL.getD k 0
/-- The comparison by n fields of the table from place k on. -/
def lexF (a b : DS) : Nat → Nat → Int
  | _, 0 => 0
  | k, n + 1 => if cmpI (get a (F k)) (get b (F k)) = 0 then lexF a b (k + 1) n else cmpI (get a (F k)) (get b (F k))

theorem cmpI_cases (a b : Int) : cmpI a b = -1 ∧ a < b ∨ cmpI a b = 0 ∧ a = b ∨ cmpI a b = 1 ∧ b < a := by
  unfold cmpI
  split
  · exact .inl ⟨rfl, by assumption⟩
  · split
    · exact .inr (.inr ⟨rfl, by assumption⟩)
    · exact .inr (.inl ⟨rfl, by omega⟩)
theorem cmpI_swap (a b : Int) : cmpI b a = - cmpI a b := by
  rcases cmpI_cases a b with h | h | h <;> rcases cmpI_cases b a with g | g | g <;> omega
theorem lexF_range (a b : DS) : ∀ n k, lexF a b k n = -1 ∨ lexF a b k n = 0 ∨ lexF a b k n = 1
  | 0, _ => .inr (.inl rfl)
  | n + 1, k => by
    unfold lexF
    split
    · exact lexF_range a b n (k + 1)
    · rcases cmpI_cases (get a (F k)) (get b (F k)) with h | h | h <;> omega
theorem lexF_swap (a b : DS) : ∀ n k, lexF b a k n = - lexF a b k n
  | 0, _ => rfl
  | n + 1, k => by
    have h1 := cmpI_swap (get a (F k)) (get b (F k))
    have h2 := lexF_swap a b n (k + 1)
    unfold lexF
    split <;> split <;> omega
theorem lexF_zero (a b : DS) : ∀ n k, lexF a b k n = 0 → ∀ j, k ≤ j → j < k + n → get a (F j) = get b (F j)
  | 0, _, _, j, h1, h2 => by omega
  | n + 1, k, h, j, h1, h2 => by
    unfold lexF at h
    split at h
    · rename_i hc
      by_cases hj : j = k
      · subst hj
        rcases cmpI_cases (get a (F j)) (get b (F j)) with g | g | g <;> omega
      · exact lexF_zero a b n (k + 1) h j (by omega) (by omega)
    · contradiction
theorem lexF_refl (a : DS) : ∀ n k, lexF a a k n = 0
  | 0, _ => rfl
  | n + 1, k => by
    have h : cmpI (get a (F k)) (get a (F k)) = 0 := by rcases cmpI_cases (get a (F k)) (get a (F k)) with g | g | g <;> omega
    unfold lexF
    rw [if_pos h]
    exact lexF_refl a n (k + 1)
theorem lexF_trans (a b c : DS) : ∀ n k, lexF a b k n ≤ 0 → lexF b c k n ≤ 0 → lexF a c k n ≤ 0 ∧ (lexF a b k n < 0 ∨ lexF b c k n < 0 → lexF a c k n < 0)
  | 0, _, _, _ => by simp [lexF]
  | n + 1, k, h1, h2 => by
    have ih := lexF_trans a b c n (k + 1)
    unfold lexF at h1 h2 ⊢
    rcases cmpI_cases (get a (F k)) (get b (F k)) with g1 | g1 | g1 <;> rcases cmpI_cases (get b (F k)) (get c (F k)) with g2 | g2 | g2 <;>
      rcases cmpI_cases (get a (F k)) (get c (F k)) with g3 | g3 | g3 <;> simp only [g1.1, g2.1, g3.1] at h1 h2 ⊢ <;> first | omega | (simp at h1 h2 ⊢ <;> first | omega | exact ih h1 h2)
theorem lexF_split (a b : DS) : ∀ m n k, lexF a b k (m + n) = if lexF a b k m = 0 then lexF a b (k + m) n else lexF a b k m
  | 0, n, k => by simp [lexF]
  | m + 1, n, k => by
    have ih := lexF_split a b m n (k + 1)
    rw [Nat.succ_add, lexF, lexF]
    split
    · rw [ih, Nat.add_assoc, Nat.add_comm 1 m]
    · rfl

theorem lexF_at (a b : DS) (k q : Nat) (h : k < q) : ((cmpI (rk a (F k)) (rk b (F k)) != 0) = false ∧ lexF a b k (q - k) = lexF a b (k + 1) (q - (k + 1))) ∨
    ((cmpI (rk a (F k)) (rk b (F k)) != 0) = true ∧ lexF a b k (q - k) = cmpI (rk a (F k)) (rk b (F k))) := by
  obtain ⟨n, rfl⟩ : ∃ n, q = k + 1 + n := ⟨q - k - 1, by omega⟩
  rw [cmpI_rk, show k + 1 + n - k = n + 1 by omega, show k + 1 + n - (k + 1) = n by omega]
  by_cases hc : cmpI (get a (F k)) (get b (F k)) = 0
  · exact .inl ⟨by simp [hc], by rw [lexF, if_pos hc]⟩
  · exact .inr ⟨by simpa using hc, by rw [lexF, if_neg hc]⟩
theorem lexF_step (a b : DS) (k n : Nat) : (cmpI (get a (F k)) (get b (F k)) = 0 → lexF a b k (n + 1) = lexF a b (k + 1) n) ∧ (cmpI (get a (F k)) (get b (F k)) ≠ 0 → lexF a b k (n + 1) = cmpI (get a (F k)) (get b (F k))) :=
  ⟨fun h => by rw [lexF, if_pos h], fun h => by rw [lexF, if_neg h]⟩
theorem lexF_one (a b : DS) (k : Nat) : lexF a b k 1 = cmpI (get a (F k)) (get b (F k)) := by
  unfold lexF lexF
  split <;> simp [*]
/-- Less. -/
def lt (a b : DS) : Prop := lexF a b 0 11 < 0
instance (a b : DS) : Decidable (lt a b) := inferInstanceAs (Decidable (_ < _))
theorem lex0 (a b : DS) (h : lexF a b 0 11 = 0) : a = b := by
  have g := lexF_zero a b 11 0 h
  have h0 := g 0 (by omega) (by omega)
  have h1 := g 1 (by omega) (by omega)
  have h2 := g 2 (by omega) (by omega)
  have h3 := g 3 (by omega) (by omega)
  have h4 := g 4 (by omega) (by omega)
  have h5 := g 5 (by omega) (by omega)
  have h6 := g 6 (by omega) (by omega)
  have h7 := g 7 (by omega) (by omega)
  have h8 := g 8 (by omega) (by omega)
  have h9 := g 9 (by omega) (by omega)
  have h10 := g 10 (by omega) (by omega)
  obtain ⟨a0, a1, a2, a3, a4, a5, a6, a7, a8, a9, a10⟩ := a
  obtain ⟨b0, b1, b2, b3, b4, b5, b6, b7, b8, b9, b10⟩ := b
  simp only [F, FL, List.getD, get, List.getElem?_cons_zero, List.getElem?_cons_succ, Option.getD_some] at h0 h1 h2 h3 h4 h5 h6 h7 h8 h9 h10
  subst h0 h1 h2 h3 h4 h5 h6 h7 h8 h9 h10
  rfl
theorem lt_irrefl (a : DS) : ¬ lt a a := by unfold lt; rw [lexF_refl]; omega
theorem lt_trans {a b c : DS} (h1 : lt a b) (h2 : lt b c) : lt a c := (lexF_trans a b c 11 0 (by unfold lt at h1; omega) (by unfold lt at h2; omega)).2 (.inl h1)
theorem lt_asymm {a b : DS} (h : lt a b) : ¬ lt b a := fun g => lt_irrefl a (lt_trans h g)
theorem lt_total {a b : DS} (h : ¬ a = b) : lt a b ∨ lt b a := by
  have h1 := lexF_swap a b 11 0
  have h2 : lexF a b 0 11 ≠ 0 := fun e => h (lex0 a b e)
  unfold lt; omega
theorem not_lt_trans {a b c : DS} (h1 : ¬ lt b a) (h2 : ¬ lt c b) : ¬ lt c a := by
  have e1 := lexF_swap a b 11 0
  have e2 := lexF_swap b c 11 0
  have e3 := lexF_swap a c 11 0
  unfold lt at *
  have := (lexF_trans a b c 11 0 (by omega) (by omega)).1
  omega

def z : DS := ⟨0, 0, 0, 0, 0, 0, 0, 0, 0, 0, 0⟩
/-- The place of the first least one of the first k, -1 if k = 0. -/
def best (l : List DS) : Nat → Int
  | 0 => -1
  | k + 1 => if best l k < 0 ∨ lt (l.getD k z) (l.getD (best l k).toNat z) then k else best l k
theorem best_new (l : List DS) (k : Nat) (h : best l k < 0 ∨ lt (l.getD k z) (l.getD (best l k).toNat z)) : best l (k + 1) = k := if_pos h
theorem best_old (l : List DS) (k : Nat) (h : ¬ (best l k < 0 ∨ lt (l.getD k z) (l.getD (best l k).toNat z))) : best l (k + 1) = best l k := if_neg h
theorem best_range (l : List DS) : ∀ k, -1 ≤ best l k ∧ best l k < k ∧ (0 < k → 0 ≤ best l k)
  | 0 => by simp [best]
  | k + 1 => by
    have := best_range l k
    unfold best
    split <;> omega
/-- It is least, and the first one. -/
theorem best_least (l : List DS) : ∀ k, k ≤ l.length → ∀ j, j < k → ¬ lt (l.getD j z) (l.getD (best l k).toNat z) ∧ ((j : Int) < best l k → lt (l.getD (best l k).toNat z) (l.getD j z))
  | 0, _, j, hj => by omega
  | k + 1, hk, j, hj => by
    have ih := best_least l k (by omega)
    have hr := best_range l k
    unfold best
    split
    · rename_i h
      simp only [Int.toNat_natCast]
      by_cases hjk : j = k
      · subst hjk; exact ⟨lt_irrefl _, fun h => by omega⟩
      · rcases h with h | h
        · omega
        · have := (ih j (by omega))
          refine ⟨fun g => ?_, fun _ => ?_⟩
          · exact this.1 (lt_trans g h)
          · by_cases hjb : (j : Int) < best l k
            · exact lt_trans h (this.2 hjb)
            · by_cases hje : (j : Int) = best l k
              · rw [← hje] at h; simpa using h
              · have h3 := this.1
                by_cases he : l.getD (best l k).toNat z = l.getD j z
                · rw [← he]; exact h
                · rcases lt_total he with h4 | h4
                  · exact lt_trans h h4
                  · exact absurd h4 h3
    · rename_i h
      by_cases hjk : j = k
      · subst hjk
        exact ⟨fun g => h (.inr g), fun g => by omega⟩
      · exact ih j (by omega)

/-- Compare: 0 same, 1 a better, 2 a better by topology, 3, 4 the same for b, 5 an error. -/
def behind (d : DS) (more better topo : Int) : Int := if 1 < more ∨ d.rcv < d.snd then better else if d.snd < d.rcv then topo else 5
def cmp (a b : DS) : Int :=
  if a = b then 0
  else if ¬ a.gm = b.gm then (if lexF a b 0 6 < 0 then 1 else 3)
  else if b.steps < a.steps then behind a (a.steps - b.steps) 3 4
  else if a.steps < b.steps then behind b (b.steps - a.steps) 1 2
  else if lexF a b 11 3 = -1 then 2 else if lexF a b 11 3 = 1 then 4 else 5

end DsLaw
end Go.Proofs.YthbfjnmdjehljaaDoor
