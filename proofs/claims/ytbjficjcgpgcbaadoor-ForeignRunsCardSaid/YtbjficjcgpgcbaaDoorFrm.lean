/- The plain law of package foreign: records of messages, and their number as one integer. No program in sight. -/
namespace Go.Proofs.YtbjficjcgpgcbaaDoor.Frm

/-! ### One integer for a list of lists -/
def prN (a b : Nat) : Nat := 2 ^ a * (2 * b + 1)
theorem prN_pos (a b : Nat) : 0 < prN a b := Nat.mul_pos (Nat.pow_pos (by decide)) (by omega)
theorem prN_inj : ∀ {a b c d : Nat}, prN a b = prN c d → a = c ∧ b = d
  | 0, b, 0, d, h => by unfold prN at h; simp at h; exact ⟨rfl, by omega⟩
  | 0, b, c + 1, d, h => by
    unfold prN at h
    rw [Nat.pow_succ, Nat.mul_comm (2 ^ c) 2, Nat.mul_assoc] at h
    simp at h
    omega
  | a + 1, b, 0, d, h => by
    unfold prN at h
    rw [Nat.pow_succ, Nat.mul_comm (2 ^ a) 2, Nat.mul_assoc] at h
    simp at h
    omega
  | a + 1, b, c + 1, d, h => by
    have h' : prN a b = prN c d := by
      unfold prN at h ⊢
      rw [Nat.pow_succ, Nat.pow_succ, Nat.mul_comm (2 ^ a) 2, Nat.mul_comm (2 ^ c) 2, Nat.mul_assoc, Nat.mul_assoc] at h
      omega
    obtain ⟨h1, h2⟩ := prN_inj h'
    exact ⟨by rw [h1], h2⟩
def encL : List Nat → Nat
  | [] => 0
  | a :: l => prN a (encL l)
theorem encL_inj : ∀ {l m : List Nat}, encL l = encL m → l = m
  | [], [], _ => rfl
  | [], b :: m, h => by have := prN_pos b (encL m); simp only [encL] at h; omega
  | a :: l, [], h => by have := prN_pos a (encL l); simp only [encL] at h; omega
  | a :: l, b :: m, h => by
    obtain ⟨h1, h2⟩ := prN_inj h
    rw [h1, encL_inj h2]
theorem map_inj {α β : Type} {f : α → β} (hf : ∀ a b, f a = f b → a = b) : ∀ {l m : List α}, l.map f = m.map f → l = m
  | [], [], _ => rfl
  | [], _ :: _, h => by cases h
  | _ :: _, [], h => by cases h
  | a :: l, b :: m, h => by
    simp only [List.map_cons, List.cons.injEq] at h
    rw [hf a b h.1, map_inj hf h.2]
def zN : Int → Nat
  | .ofNat n => 2 * n
  | .negSucc n => 2 * n + 1
theorem zN_inj : ∀ a b : Int, zN a = zN b → a = b
  | .ofNat n, .ofNat m, h => by simp only [zN] at h; rw [show n = m by omega]
  | .ofNat n, .negSucc m, h => by simp only [zN] at h; omega
  | .negSucc n, .ofNat m, h => by simp only [zN] at h; omega
  | .negSucc n, .negSucc m, h => by simp only [zN] at h; rw [show n = m by omega]

/-! ### Messages and records -/
structure Msg where
  d : List Int
  t : Int
structure FS where
  win : Int
  need : Int
  now : Int
  l : List (List Msg)
def encM (m : Msg) : Nat := encL ((m.t :: m.d).map zN)
theorem encM_inj (a b : Msg) (h : encM a = encM b) : a = b := by
  have := map_inj zN_inj (encL_inj h)
  obtain ⟨d, t⟩ := a
  obtain ⟨d', t'⟩ := b
  simp only [List.cons.injEq] at this
  rw [this.1, this.2]
def encR (r : List Msg) : Nat := encL (r.map encM)
theorem encR_inj (a b : List Msg) (h : encR a = encR b) : a = b := map_inj encM_inj (encL_inj h)
def code (s : FS) : Int := Int.ofNat (encL (zN s.win :: zN s.need :: zN s.now :: s.l.map encR))
theorem code_inj {a b : FS} (h : code a = code b) : a = b := by
  have h1 := encL_inj (Int.ofNat.inj h)
  obtain ⟨x, y, z, l⟩ := a
  obtain ⟨x', y', z', l'⟩ := b
  simp only [List.cons.injEq] at h1
  obtain ⟨e1, e2, e3, e4⟩ := h1
  rw [zN_inj _ _ e1, zN_inj _ _ e2, zN_inj _ _ e3, map_inj encR_inj e4]
noncomputable def dec (x : Int) : FS := open Classical in if h : ∃ s, code s = x then Classical.choose h else ⟨1, 1, 0, []⟩
theorem dec_code (s : FS) : dec (code s) = s := by
  unfold dec
  rw [dif_pos ⟨s, rfl⟩]
  exact code_inj (Classical.choose_spec (⟨s, rfl⟩ : ∃ s', code s' = code s))

/-! ### What the methods come to. Steps, Sender, SPort, Recv: numbers 6, 7, 8, 9 of a data set. -/
def lastM (r : List Msg) : Msg := r.getLastD ⟨[], 0⟩
def org (d : List Int) : Int × Int := (d.getD 7 0, d.getD 8 0)
def maxSim : Int := 1125899906842624
/-- The error, as package api numbers it; 0: none. -/
def bad (s : FS) (d : List Int) (t : Int) : Int :=
  if t < 0 ∨ maxSim < t then 3 else if t < s.now then 12 else if d.getD 7 0 = d.getD 9 0 then 18 else if 32 ≤ d.getD 6 0 then 3 else 0
def keep8 (r : List Msg) : List Msg := if r.length > 8 then r.tail else r
/-- The number of the record with an origin. -/
def find (d : List Int) : List (List Msg) → Option Nat
  | [] => none
  | r :: l => if org (lastM r).d = org d then some 0 else (find d l).map (· + 1)
/-- The first record whose last time is least: the number so far, its time, the number of the next one. -/
def oldest (t : Int) (k i : Nat) : List (List Msg) → Nat
  | [] => k
  | r :: l => if (lastM r).t < t then oldest (lastM r).t i (i + 1) l else oldest t k (i + 1) l
def old (l : List (List Msg)) : Nat := oldest (lastM (l.headD [])).t 0 0 l
def put (d : List Int) (t : Int) (l : List (List Msg)) : List (List Msg) :=
  match find d l with
  | some i => l.set i (keep8 (l.getD i [] ++ [⟨d, t⟩]))
  | none => (if l.length = 5 then l.eraseIdx (old l) else l) ++ [[⟨d, t⟩]]
def hear (s : FS) (d : List Int) (t : Int) : FS := if bad s d t = 0 then { s with now := t, l := put d t s.l } else s
def isNew (b : Int) (m : Msg) : Bool := decide (b < m.t)
def recent (s : FS) (t : Int) (r : List Msg) : Nat := (r.filter (isNew (max t s.now - s.win))).length
def quals (s : FS) (t : Int) : List (List Msg) := s.l.filter fun r => decide (s.need ≤ (recent s t r : Int))
def qual (s : FS) (t : Int) : List (List Int) := (quals s t).map fun r => (lastM r).d
def kept (s : FS) (t : Int) : List (List Msg) := s.l.filter fun r => decide (0 < recent s t r)
def forget (s : FS) (t : Int) : FS := { s with l := kept s t }
def gone (s : FS) (t : Int) : Nat := s.l.length - (kept s t).length
/-- The best of data sets, by a comparison. -/
def bestOf (lt : List Int → List Int → Bool) : List (List Int) → List Int → List Int
  | [], b => b
  | x :: l, b => bestOf lt l (if lt x b then x else b)
end Go.Proofs.YtbjficjcgpgcbaaDoor.Frm
