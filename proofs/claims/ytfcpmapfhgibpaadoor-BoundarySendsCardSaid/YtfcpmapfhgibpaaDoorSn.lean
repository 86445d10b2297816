/- Layer 41: what Send returns: the announce messages of the ports that are Master: how its ways are checked. -/
import Derived.Test.YtfcpmapfhgibpaaDoorWu
namespace Go.Proofs.YtfcpmapfhgibpaaDoor
open Go Go.RowKit SX Frm Frn
set_option linter.unusedVariables false
set_option linter.unusedSimpArgs false
set_option maxRecDepth 100000

/-! ### Trees with what their ways say -/
def allC {α : Type} (chk : Fs → α → Bool) : Fs → T α → Bool
  | p, .ok o => chk p o
  | p, .br c t e => allC chk ((c, true) :: p) t && allC chk ((c, false) :: p) e
  | p, .both t _ => allC chk p t
  | _, .bad _ => false
theorem pick_C {α : Type} {ρ : Env} {chk : Fs → α → Bool} : ∀ {t : T α} {p : Fs} {o : α}, allC chk p t = true → SX.FsOk ρ p → t.pickB ρ = some o → ∃ p', SX.FsOk ρ p' ∧ chk p' o = true
  | .ok o, p, o', h, hp, e => by cases e; exact ⟨p, hp, h⟩
  | .br c t e, p, o', h, hp, hk => by
    simp only [allC, Bool.and_eq_true] at h
    simp only [T.pickB] at hk
    split at hk
    · rename_i hc; exact pick_C h.1 (fsOk_cons.2 ⟨⟨fun _ => rfl, fun _ => hc⟩, hp⟩) hk
    · rename_i hc; exact pick_C h.2 (fsOk_cons.2 ⟨⟨fun h => absurd h hc, fun h => Bool.noConfusion h⟩, hp⟩) hk
  | .both t e, p, o', h, hp, hk => pick_C (t := t) h hp hk
  | .bad _, _, _, h, _, _ => by cases h
/-- .. the ways that begin with these turns. -/
def partC {α : Type} (chk : Fs → α → Bool) : List Bool → Fs → T α → Bool
  | b :: l, p, .br c t e => match b with
    | true => partC chk l ((c, true) :: p) t
    | false => partC chk l ((c, false) :: p) e
  | _, p, t => allC chk p t
theorem partC_all {α : Type} {chk : Fs → α → Bool} : ∀ (d : Nat) (p : Fs) (t : T α), (∀ l : List Bool, l.length = d → partC chk l p t = true) → allC chk p t = true
  | 0, p, t, h => by
    have := h [] rfl
    cases t <;> exact this
  | d + 1, p, .br c t e, h => by
    have ht : ∀ l : List Bool, l.length = d → partC chk l ((c, true) :: p) t = true := fun l hl => h (true :: l) (by rw [List.length_cons, hl])
    have he : ∀ l : List Bool, l.length = d → partC chk l ((c, false) :: p) e = true := fun l hl => h (false :: l) (by rw [List.length_cons, hl])
    simp only [allC, Bool.and_eq_true]
    exact ⟨partC_all d _ t ht, partC_all d _ e he⟩
  | d + 1, p, .ok o, h => h (List.replicate (d + 1) true) (by simp)
  | d + 1, p, .both t e, h => h (List.replicate (d + 1) true) (by simp)
  | d + 1, p, .bad n, h => h (List.replicate (d + 1) true) (by simp)
/-! ### The ports that send -/
def ownV : List E := [.var 1, .var 2, .var 3, .var 4, .var 5, .var 0, .lit 0, .var 0, .lit 0, .var 0, .lit 0]
def kV : List IntKind := [.i64, .i64, .i64, .i64, .i64, .u64, .i64, .u64, .i64, .u64, .i64]
/-- The clock follows itself. -/
def samV : List Nat → E
  | [] => .lit 1
  | [j] => .bin .eq (kV.getD j .i64) (.var (11 + j)) (ownV.getD j (.lit 0))
  | j :: l => .bin .band .i64 (.bin .eq (kV.getD j .i64) (.var (11 + j)) (ownV.getD j (.lit 0))) (samV l)
def samA : E := samV (List.range 11)
def stpE : E := .bin .add .i64 (.var 17) (.lit 1)
/-- Not too many steps. -/
def ltS : E := .bin .lt .i64 stpE (.lit 32)
def masE (i : Nat) : E := .bin .eq .i64 (.var (stV i 0)) (.lit 6)
def hasQ (p : Fs) (e : E) : Option Bool := (p.find? fun q => q.1.beq e).map (·.2)
theorem hasQ_ok {ρ : Env} {p : Fs} (hp : SX.FsOk ρ p) {e : E} {b : Bool} (h : hasQ p e = some b) : (e.ev ρ ≠ 0 ↔ b = true) := by
  unfold hasQ at h
  obtain ⟨q, hq, rfl⟩ := Option.map_eq_some_iff.1 h
  have h1 := List.find?_some hq
  have h2 := List.mem_of_find?_eq_some hq
  rw [← E.beq_eq _ _ h1]
  exact hp q h2
/-- The message of port i. -/
def sndE (st : E) (i : Nat) : List E := [litN (i + 1), .lit 11, .var 6, .lit 0, .lit 0, .var 0, litN (i + 1), .var (stV i 1), .lit 0, .lit 0, .lit 0, .lit 0, .lit 0, .lit 0, .var 11, .var 12, .var 13, .var 14, .var 15, .var 16, st, .lit 0]
def seqE (i : Nat) : E := .bin .rem .i64 (.bin .add .i64 (.var (stV i 1)) (.lit 1)) (.lit 65536)
/-- Number v behind it. -/
def sndV (ps : List Nat) (v : Nat) : E := if 23 ≤ v ∧ (v - 23) % 6 = 1 ∧ ps.contains ((v - 23) / 6) = true then seqE ((v - 23) / 6) else .var v
def sndBody (n : Nat) (p : Fs) (k : Nat) (cs : List E) (nums : List E) (st : E) : Bool :=
  let ps := (List.range n).filter fun i => hasQ p (masE i) == some true
  ((List.range n).all fun i => (hasQ p (masE i)).isSome) && Nat.beq k ps.length && E.beqs cs (ps.flatMap (sndE st)) && E.beqs nums ((List.range (23 + 6 * n)).map (sndV ps))
def sndChk (n : Nat) (p : Fs) (o : Out) : Bool := match clSend.parts o with
  | some (k, _, cs) =>
    let nums := (List.range (23 + 6 * n)).map (famS (clA n) o)
    match hasQ p samA with
    | some true => sndBody n p k cs nums (.lit 0)
    | some false => (match hasQ p ltS with
      | some true => sndBody n p k cs nums stpE
      | some false => Nat.beq k 0 && E.beqs nums ((List.range (23 + 6 * n)).map (sndV []))
      | none => false)
    | none => false
  | none => false
end Go.Proofs.YtfcpmapfhgibpaaDoor
