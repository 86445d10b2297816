/- Objects: layouts, records, exchanges, clocks. -/
import Derived.Test.YtfcpmapfhgibpaaGreatDoorWa
import Derived.WalkKit
import Derived.Laws.BitsAllLaws
import Derived.Laws.BitsLemmas
set_option linter.unusedVariables false
set_option linter.unusedSimpArgs false
set_option maxRecDepth 1000000
namespace Go.Proofs.YtfcpmapfhgibpaaGreatDoor
noncomputable section
namespace SX
open Go
mutual
def E.within (n m : Nat) : E -> Bool
 | .lit _ => true
 | .var i => Nat.blt i n
 | .rd _ _ _ => false
 | .bin _ _ a b => E.within n m a && E.within n m b
 | .app f _ l => Nat.blt f m && E.withins n m l
def E.withins (n m : Nat) : List E -> Bool
 | [] => true
 | e :: l => E.within n m e && E.withins n m l
end
structure Near (n m : Nat) (ρ ρ' : Env) : Prop where
 v : ∀ i, i < n -> ρ.v i = ρ'.v i
 fn : ∀ f, f < m -> ρ.fn f = ρ'.fn f
section
variable {n m : Nat} {ρ ρ' : Env}
mutual
theorem E.ev_near (h : Near n m ρ ρ') : ∀ e : E, e.within n m = true -> e.ev ρ = e.ev ρ'
 | .lit _, _ => rfl
 | .var i, hw => h.v i (by rw [E.within, blt_iff, dEq] at hw; exact hw)
 | .rd _ _ _, hw => by cases hw
 | .bin o k a b, hw => by
  simp only [E.within, bAnd] at hw; simp only [E.ev]; rw [E.ev_near h a hw.1, E.ev_near h b hw.2]
 | .app f j l, hw => by
  simp only [E.within, bAnd, blt_iff, dEq] at hw; simp only [E.ev]; rw [E.evs_near h l hw.2, h.fn f hw.1]
theorem E.evs_near (h : Near n m ρ ρ') : ∀ l : List E, E.withins n m l = true -> E.evs ρ l = E.evs ρ' l
 | [], _ => rfl
 | e :: l, hw => by
  simp only [E.withins, bAnd] at hw; simp only [E.evs]; rw [E.ev_near h e hw.1, E.evs_near h l hw.2]
end
def SV.within (n m : Nat) : SV -> Bool
 | .int _ e => e.within n m
 | .bool e => e.within n m
 | .ptr _ _ => true
 | .map _ => true
 | .slice _ _ _ _ => true
 | .raw _ => true
 | _ => false
theorem SV.ev_near (h : Near n m ρ ρ') (β : Bm) : ∀ s : SV, s.within n m = true -> s.ev ρ β = s.ev ρ' β /\ ∀ k, s.ok ρ k -> s.ok ρ' k := fun s hs => by
 cases s <;> simp only [SV.within] at hs <;> try cases hs
 ·rename_i k e
  have := E.ev_near h e hs; refine ⟨by simp only [SV.ev, this], fun _ h => ?_⟩
  simp only [SV.ok] at h ⊢
  first | (rw [<- this]; exact h) | trivial
 ·rename_i e
  have := E.ev_near h e hs; refine ⟨by simp only [SV.ev, this], fun _ h => ?_⟩
  trivial
 all_goals exact ⟨rfl, fun _ h => h⟩
theorem SV.evs_near (h : Near n m ρ ρ') (β : Bm) : ∀ l : List SV, l.all (SV.within n m) = true -> SV.evs ρ β l = SV.evs ρ' β l /\ ∀ k, SV.oks ρ k l -> SV.oks ρ' k l
 | [], _ => ⟨rfl, fun _ h => h⟩
 | s :: l, hl => by
  simp only [List.all_cons, bAnd] at hl; obtain ⟨a1, a2⟩ := SV.ev_near h β s hl.1; obtain ⟨b1, b2⟩ := SV.evs_near h β l hl.2; exact ⟨by simp only [SV.evs]; rw [a1, b1], fun k hk => ⟨a2 k hk.1, b2 k hk.2⟩⟩
def Bx.part (n m : Nat) : Bx -> Bool
 | .cells c _ _ => c.all (SV.within n m)
 | .map es _ => es.all fun e => e.1.within n m && e.2.1.within n m
 | .obj _ es => E.withins n m es
 | _ => false
theorem ents_near (h : Near n m ρ ρ') (β : Bm) : ∀ es : List (SV × SV × Nat), (es.all fun e => e.1.within n m && e.2.1.within n m) = true -> es.map (entOf ρ β) = es.map (entOf ρ' β)
 | [], _ => rfl
 | e :: es, hl => by
  simp only [List.all_cons, bAnd] at hl; simp only [List.map_cons, entOf, (SV.ev_near h β e.1 hl.1.1).1, (SV.ev_near h β e.2.1 hl.1.2).1]; rw [<- ents_near h β es hl.2]
theorem Bx.near (h : Near n m ρ ρ') {β : Bm} {bv : Nat × Nat} {w : World} : ∀ {b : Bx}, b.part n m = true -> (b.lies ρ β bv w -> b.lies ρ' β bv w) /\ ∀ k, b.ok ρ k -> b.ok ρ' k := fun {b} hb => by
 cases b <;> simp only [Bx.part] at hb <;> try cases hb
 ·rename_i c ty tail
  obtain ⟨e, ho⟩ := SV.evs_near h β c hb; refine ⟨fun hl => ?_, ho⟩
  cases tail with
  | zero => simp only [Bx.lies] at hl ⊢; rw [<- e]; exact hl
  | succ s => simp only [Bx.lies] at hl ⊢; rw [<- e]; exact hl
 ·rename_i es clock
  refine ⟨fun hl => ?_, fun k hk x hx => ?_⟩
  ·simp only [Bx.lies] at hl ⊢; rw [<- ents_near h β es hb]; exact hl
  ·have hx' := lAl.1 hb x hx
   simp only [bAnd] at hx'; exact ⟨(SV.ev_near h β x.1 hx'.1).2 k (hk x hx).1, (SV.ev_near h β x.2.1 hx'.2).2 k (hk x hx).2⟩
 ·exact ⟨fun _ => trivial, fun _ _ => trivial⟩
theorem facts_near (h : Near n m ρ ρ') {fs : List (E × Bool)} (hw : (fs.all fun p => p.1.within n m) = true) (hf : ∀ p ∈ fs, (p.1.ev ρ ≠ 0 ↔ p.2 = true)) : ∀ p ∈ fs, (p.1.ev ρ' ≠ 0 ↔ p.2 = true) := fun p hp => by
 rw [<- E.ev_near h p.1 (lAl.1 hw p hp)]; exact hf p hp
end
structure Fam where
 bs : List Box
 fs : List (E × Bool)
 nv : Nat
def Fam.ok (m : Nat) (a : Fam) : Bool := Nat.blt 0 a.bs.length && a.bs.all (fun b => b.rw && b.c.part a.nv m) && a.fs.all fun p => p.1.within a.nv m
structure TLay (O : Nat -> List Int -> Nat -> (Nat -> Prop) -> World -> Prop) (ρ : Env) (bs : List Box) (β : Bm) (ψ : Nat -> Nat -> Prop) (w : World) : Prop where
 lies : ∀ (k : Nat) (x : Box), bs[k]? = some x -> x.c.lies ρ β (β k) w
 good : ∀ (k : Nat) (x : Box), bs[k]? = some x -> x.c.ok ρ bs.length
 inj : ∀ (j k : Nat) (x y : Box), bs[j]? = some x -> bs[k]? = some y -> x.c.live = true -> y.c.live = true -> (β j).1 = (β k).1 -> j = k
 has : ∀ (k : Nat) (x : Box) (q : Nat) (es : List E), bs[k]? = some x -> x.c = .obj q es -> O q (E.evs ρ es) (β k).1 (ψ k) w
 apart : ∀ (j k : Nat) (x y : Box), bs[j]? = some x -> bs[k]? = some y -> x.c.isObj = true -> j ≠ k -> ∀ i, ψ j i -> (y.c.live = true -> (β k).1 ≠ i) /\ (y.c.isObj = true -> ¬ ψ k i)
def blksT (bs : List Box) (β : Bm) (ψ : Nat -> Nat -> Prop) (i : Nat) : Prop := ∃ (k : Nat) (x : Box), bs[k]? = some x /\ ((x.c.live = true /\ (β k).1 = i) \/ (x.c.isObj = true /\ ψ k i))
section
variable {O : Nat -> List Int -> Nat -> (Nat -> Prop) -> World -> Prop} {ρ ρ' : Env} {bs : List Box} {β : Bm} {ψ : Nat -> Nat -> Prop} {w w' : World} {n m : Nat}
theorem TLay.near (h : TLay O ρ bs β ψ w) (hn : Near n m ρ ρ') (hb : bs.all (fun b => b.rw && b.c.part n m) = true) : TLay O ρ' bs β ψ w := by
 have hp : ∀ (k : Nat) (x : Box), bs[k]? = some x -> x.c.part n m = true := fun k x hk => by
  have := lAl.1 hb x (List.mem_of_getElem? hk); simp only [bAnd] at this; exact this.2
 refine ⟨fun k x hk => (Bx.near hn (hp k x hk)).1 (h.lies k x hk), fun k x hk => (Bx.near (β := β) (bv := (0, 0)) (w := w) hn (hp k x hk)).2 _ (h.good k x hk), h.inj, fun k x q es hk e => ?_, h.apart⟩
 have h1 := h.has k x q es hk e; have h2 := hp k x hk; rw [e] at h2; rw [<- E.evs_near hn es h2]; exact h1
theorem lies_ltT {b : Bx} {bv : Nat × Nat} (hp : b.part n m = true) (hv : b.live = true) (hl : b.lies ρ β bv w) : bv.1 < w.heap.size := by
 cases b <;> simp only [Bx.part] at hp <;> try cases hp
 ·rename_i c ty tail
  cases tail with
  | zero => exact (Array.getElem?_eq_some_iff.1 hl).1
  | succ s => obtain ⟨rest, h1, _⟩ := hl; exact (Array.getElem?_eq_some_iff.1 h1).1
 ·exact (Array.getElem?_eq_some_iff.1 hl).1
 ·cases hv
theorem lies_keepT {b : Bx} {bv : Nat × Nat} (hp : b.part n m = true) (hk : b.live = true -> w'.heap[bv.1]? = w.heap[bv.1]?) (hl : b.lies ρ β bv w) : b.lies ρ β bv w' := by
 cases b <;> simp only [Bx.part] at hp <;> try cases hp
 ·rename_i c ty tail
  have hk2 := hk (by rfl)
  clear hk; cases tail with
  | zero => simp only [Bx.lies] at hl ⊢; rw [hk2]; exact hl
  | succ s => simp only [Bx.lies] at hl ⊢; rw [hk2]; exact hl
 ·have hk2 := hk (by rfl)
  clear hk; simp only [Bx.lies] at hl ⊢; rw [hk2]; exact hl
 ·trivial
theorem TLay.lt (h : TLay O ρ bs β ψ w) (hO : ∀ {q vs b φ w}, O q vs b φ w -> ∀ i, φ i -> i < w.heap.size) (hb : bs.all (fun b => b.rw && b.c.part n m) = true) {i : Nat} (hi : blksT bs β ψ i) : i < w.heap.size := by
 obtain ⟨k, x, hk, h1⟩ := hi; have hp := lAl.1 hb x (List.mem_of_getElem? hk); simp only [bAnd] at hp; rcases h1 with ⟨hv, rfl⟩ | ⟨hv, h1⟩
 ·exact lies_ltT hp.2 hv (h.lies k x hk)
 ·cases hc : x.c with
  | obj q es => exact hO (h.has k x q es hk hc) i h1
  | _ => rw [hc] at hv; cases hv
theorem TLay.keep (h : TLay O ρ bs β ψ w) (hO : ∀ {q vs b φ w w'}, O q vs b φ w -> (∀ i, φ i -> w'.heap[i]? = w.heap[i]?) -> O q vs b φ w') (hb : bs.all (fun b => b.rw && b.c.part n m) = true)
  (hk : ∀ i, blksT bs β ψ i -> w'.heap[i]? = w.heap[i]?) : TLay O ρ bs β ψ w' := by
 refine ⟨fun k x hx => ?_, h.good, h.inj, fun k x q es hx e => hO (h.has k x q es hx e) fun i hi => hk i ⟨k, x, hx, .inr ⟨by rw [e]; rfl, hi⟩⟩, h.apart⟩
 have hp := lAl.1 hb x (List.mem_of_getElem? hx); simp only [bAnd] at hp; exact lies_keepT hp.2 (fun hv => hk _ ⟨k, x, hx, .inl ⟨hv, rfl⟩⟩) (h.lies k x hx)
end
def envT (G : Mng) (ns : List Int) : Env := ⟨fun i => ns.getD i 0, fun _ _ _ => 0, G⟩
def TOb (O : Nat -> List Int -> Nat -> (Nat -> Prop) -> World -> Prop) (G : Mng) (fam : Nat -> Option Fam) (cod : List Int -> Int) (vs : List Int) (b : Nat) (φ : Nat -> Prop) (w : World) : Prop :=
 ∃ (t : Nat) (ns : List Int) (a : Fam) (β : Bm) (ψ : Nat -> Nat -> Prop), vs = [cod ((t : Int) :: ns)] /\ fam t = some a /\ ns.length = a.nv /\ (β 0).1 = b /\ (∀ p ∈ a.fs, (p.1.ev (envT G ns) ≠ 0 ↔ p.2 = true)) /\ TLay O (envT G ns) a.bs β ψ w /\ ∀ i, φ i ↔ blksT a.bs β ψ i
section
variable {O : Nat -> List Int -> Nat -> (Nat -> Prop) -> World -> Prop} {G : Mng} {fam : Nat -> Option Fam} {cod : List Int -> Int} {vs : List Int} {b : Nat} {φ : Nat -> Prop} {w w' : World} {m : Nat}
theorem Fam.parts {a : Fam} (h : a.ok m = true) : a.bs.all (fun b => b.rw && b.c.part a.nv m) = true := by
 simp only [Fam.ok, bAnd] at h; exact h.1.2
theorem TOb_lt (hO : ∀ {q vs b φ w}, O q vs b φ w -> ∀ i, φ i -> i < w.heap.size) (hfam : ∀ t a, fam t = some a -> a.ok m = true) (h : TOb O G fam cod vs b φ w) : ∀ i, φ i -> i < w.heap.size := fun i hi => by
 obtain ⟨t, ns, a, β, ψ, _, h2, _, _, _, h6, h7⟩ := h; exact h6.lt hO (Fam.parts (hfam t a h2)) ((h7 i).1 hi)
theorem TOb_keep (hO : ∀ {q vs b φ w w'}, O q vs b φ w -> (∀ i, φ i -> w'.heap[i]? = w.heap[i]?) -> O q vs b φ w') (hfam : ∀ t a, fam t = some a -> a.ok m = true) (h : TOb O G fam cod vs b φ w) (hk : ∀ i, φ i -> w'.heap[i]? = w.heap[i]?) : TOb O G fam cod vs b φ w' := by
 obtain ⟨t, ns, a, β, ψ, h1, h2, h3, h4, h5, h6, h7⟩ := h; exact ⟨t, ns, a, β, ψ, h1, h2, h3, h4, h5, h6.keep hO (Fam.parts (hfam t a h2)) fun i hi => hk i ((h7 i).2 hi), h7⟩
end
end SX
namespace Frm
def prN (a b : Nat) : Nat := 2 ^ a * (2 * b + 1)
theorem prN_pos (a b : Nat) : 0 < prN a b := Nat.mul_pos (Nat.pow_pos (by decide)) (by omega)
theorem prN_inj : ∀ {a b c d : Nat}, prN a b = prN c d -> a = c /\ b = d
 | 0, b, 0, d, h => by unfold prN at h; simp at h; exact ⟨rfl, by omega⟩
 | 0, b, c + 1, d, h => by
  unfold prN at h; rw [Nat.pow_succ, Nat.mul_comm (2 ^ c) 2, Nat.mul_assoc] at h; simp at h; omega
 | a + 1, b, 0, d, h => by
  unfold prN at h; rw [Nat.pow_succ, Nat.mul_comm (2 ^ a) 2, Nat.mul_assoc] at h; simp at h; omega
 | a + 1, b, c + 1, d, h => by
  have h' : prN a b = prN c d := by
   unfold prN at h ⊢; rw [Nat.pow_succ, Nat.pow_succ, Nat.mul_comm (2 ^ a) 2, Nat.mul_comm (2 ^ c) 2, Nat.mul_assoc, Nat.mul_assoc] at h; omega
  obtain ⟨h1, h2⟩ := prN_inj h'; exact ⟨by rw [h1], h2⟩
def encL : List Nat -> Nat
 | [] => 0
 | a :: l => prN a (encL l)
theorem encL_inj : ∀ {l m : List Nat}, encL l = encL m -> l = m
 | [], [], _ => rfl
 | [], b :: m, h => by have := prN_pos b (encL m); simp only [encL] at h; omega
 | a :: l, [], h => by have := prN_pos a (encL l); simp only [encL] at h; omega
 | a :: l, b :: m, h => by
  obtain ⟨h1, h2⟩ := prN_inj h; rw [h1, encL_inj h2]
theorem map_inj {α β : Type} {f : α -> β} (hf : ∀ a b, f a = f b -> a = b) : ∀ {l m : List α}, l.map f = m.map f -> l = m
 | [], [], _ => rfl
 | [], _ :: _, h => by cases h
 | _ :: _, [], h => by cases h
 | a :: l, b :: m, h => by
  simp only [List.map_cons, List.cons.injEq] at h; rw [hf a b h.1, map_inj hf h.2]
def zN : Int -> Nat
 | .ofNat n => 2 * n
 | .negSucc n => 2 * n + 1
theorem zN_inj : ∀ a b : Int, zN a = zN b -> a = b
 | .ofNat n, .ofNat m, h => by simp only [zN] at h; rw [show n = m by omega]
 | .ofNat n, .negSucc m, h => by simp only [zN] at h; omega
 | .negSucc n, .ofNat m, h => by simp only [zN] at h; omega
 | .negSucc n, .negSucc m, h => by simp only [zN] at h; rw [show n = m by omega]
structure Msg where
 d : List Int
 t : Int
structure FS where
 win : Int
 need : Int
 now : Int
 l : List (List Msg)
def encM (m : Msg) : Nat := encL ((m.t :: m.d).map zN)
theorem encM_inj (a b : Msg) (h : encM a = encM b) : a = b := by
 have := map_inj zN_inj (encL_inj h); obtain ⟨d, t⟩ := a; obtain ⟨d', t'⟩ := b; simp only [List.cons.injEq] at this; rw [this.1, this.2]
def encR (r : List Msg) : Nat := encL (r.map encM)
theorem encR_inj (a b : List Msg) (h : encR a = encR b) : a = b := map_inj encM_inj (encL_inj h)
def code (s : FS) : Int := Int.ofNat (encL (zN s.win :: zN s.need :: zN s.now :: s.l.map encR))
theorem code_inj {a b : FS} (h : code a = code b) : a = b := by
 have h1 := encL_inj (Int.ofNat.inj h); obtain ⟨x, y, z, l⟩ := a; obtain ⟨x', y', z', l'⟩ := b; simp only [List.cons.injEq] at h1; obtain ⟨e1, e2, e3, e4⟩ := h1; rw [zN_inj _ _ e1, zN_inj _ _ e2, zN_inj _ _ e3, map_inj encR_inj e4]
def dec (x : Int) : FS := open Classical in if h : ∃ s, code s = x then Classical.choose h else ⟨1, 1, 0, []⟩
theorem dec_code (s : FS) : dec (code s) = s := by
 unfold dec; rw [dif_pos ⟨s, rfl⟩]; exact code_inj (Classical.choose_spec (⟨s, rfl⟩ : ∃ s', code s' = code s))
def lastM (r : List Msg) : Msg := r.getLastD ⟨[], 0⟩
def org (d : List Int) : Int × Int := (d.getD 7 0, d.getD 8 0)
def maxSim : Int := 1125899906842624
def bad (s : FS) (d : List Int) (t : Int) : Int :=
 if t < 0 \/ maxSim < t then 3 else if t < s.now then 12 else if d.getD 7 0 = d.getD 9 0 then 18 else if 32 <= d.getD 6 0 then 3 else 0
def keep8 (r : List Msg) : List Msg := if r.length > 8 then r.tail else r
def find (d : List Int) : List (List Msg) -> Option Nat
 | [] => none
 | r :: l => if org (lastM r).d = org d then some 0 else (find d l).map (· + 1)
def oldest (t : Int) (k i : Nat) : List (List Msg) -> Nat
 | [] => k
 | r :: l => if (lastM r).t < t then oldest (lastM r).t i (i + 1) l else oldest t k (i + 1) l
def old (l : List (List Msg)) : Nat := oldest (lastM (l.headD [])).t 0 0 l
def put (d : List Int) (t : Int) (l : List (List Msg)) : List (List Msg) :=
 match find d l with
 | some i => l.set i (keep8 (l.getD i [] ++ [⟨d, t⟩]))
 | none => (if l.length = 5 then l.eraseIdx (old l) else l) ++ [[⟨d, t⟩]]
def hear (s : FS) (d : List Int) (t : Int) : FS := if bad s d t = 0 then { s with now := t, l := put d t s.l } else s
def isNew (b : Int) (m : Msg) : Bool := decide (b < m.t)
def recent (s : FS) (t : Int) (r : List Msg) : Nat := (r.filter (isNew (max t s.now - s.win))).length
def quals (s : FS) (t : Int) : List (List Msg) := s.l.filter fun r => decide (s.need <= (recent s t r : Int))
def qual (s : FS) (t : Int) : List (List Int) := (quals s t).map fun r => (lastM r).d
def kept (s : FS) (t : Int) : List (List Msg) := s.l.filter fun r => decide (0 < recent s t r)
def forget (s : FS) (t : Int) : FS := { s with l := kept s t }
def gone (s : FS) (t : Int) : Nat := s.l.length - (kept s t).length
end Frm
namespace Frn
open Go Frm
def ks11 : List IntKind := [.i64, .i64, .i64, .i64, .i64, .u64, .i64, .u64, .i64, .u64, .i64]
def valsK : List IntKind -> List Int -> List Value
 | [], _ => []
 | k :: l, d => .int k (d.headD 0) :: valsK l d.tail
def fitsK : List IntKind -> List Int -> Prop
 | [], d => d = []
 | k :: l, d => (Lit.int k (d.headD 0)).wf = true /\ d ≠ [] /\ fitsK l d.tail
def dsVals (d : List Int) : List Value := valsK ks11 d
def ptrV (m : Nat) : Value := .pointer (some ⟨m, 0, none⟩)
def slV (b len cap : Nat) : Value := .slice (some ⟨b, 0, none⟩) len cap
structure MsgOk (now : Int) (m : Msg) : Prop where
 fits : fitsK ks11 m.d
 lo : 0 <= m.t
 hi : m.t <= now
structure RsOk (s : FS) : Prop where
 win : 1 <= s.win /\ s.win <= maxSim
 need : 1 <= s.need /\ s.need <= 8
 now : 0 <= s.now /\ s.now <= maxSim
 five : s.l.length <= 5
 some : ∀ r ∈ s.l, 1 <= r.length /\ r.length <= 8
 msgs : ∀ r ∈ s.l, ∀ m ∈ r, MsgOk s.now m
 apart : s.l.Pairwise fun a b => org (lastM a).d ≠ org (lastM b).d
abbrev RV := List Int × List Int
def viewA (r : List Msg) : RV := ((lastM r).d, r.map Msg.t)
def recV (r : RV) (t : Nat × Nat) : List Value := [.int .u64 (r.1.getD 7 0), .int .i64 (r.1.getD 8 0)] ++ dsVals r.1 ++ [slV t.1 r.2.length t.2]
structure LayA (win need now : Int) (l : List RV) (b lb lc : Nat) (ms : List Nat) (ts : List (Nat × Nat)) (w : World) : Prop where
 lm : ms.length = l.length
 lt : ts.length = l.length
 head : w.heap[b]? = some (.cells #[.int .i64 win, .int .i64 need, .int .i64 now, if l = [] then .slice none 0 0 else slV lb l.length lc] 112 (0, 0))
 list : l ≠ [] -> ∃ rest, w.heap[lb]? = some (.cells (ms.map ptrV ++ rest).toArray 130 (0, 0)) /\ l.length + rest.length = lc
 recs : ∀ (i : Nat) (r : RV) (m : Nat) (t : Nat × Nat), l[i]? = some r -> ms[i]? = some m -> ts[i]? = some t -> w.heap[m]? = some (.cells (recV r t).toArray 142 (0, 0))
 tims : ∀ (i : Nat) (r : RV) (t : Nat × Nat), l[i]? = some r -> ts[i]? = some t -> ∃ rest, w.heap[t.1]? = some (.cells (r.2.map (Value.int .i64) ++ rest).toArray 3 (0, 0)) /\ r.2.length + rest.length = t.2
 nodup : (b :: ((if l = [] then [] else [lb]) ++ (ms ++ ts.map (·.1)))).Nodup
def blksA (l : List RV) (b lb : Nat) (ms : List Nat) (ts : List (Nat × Nat)) : List Nat := b :: ((if l = [] then [] else [lb]) ++ (ms ++ ts.map (·.1)))
def msgV (m : Msg) : List Value := dsVals m.d ++ [.int .i64 m.t]
def rowV (r : List Msg) (t : Nat × Nat × Nat) : Value := .slice (some ⟨t.1, t.2.1, none⟩) r.length t.2.2
structure LayB (win need now : Int) (l : List (List Msg)) (b lb lc : Nat) (ts : List (Nat × Nat × Nat)) (w : World) : Prop where
 lt : ts.length = l.length
 head : w.heap[b]? = some (.cells #[.int .i64 win, .int .i64 need, if l = [] then .slice none 0 0 else slV lb l.length lc, .int .i64 now] 121 (0, 0))
 list : l ≠ [] -> ∃ rest, w.heap[lb]? = some (.cells (List.zipWith rowV l ts ++ rest).toArray 148 (0, 0)) /\ l.length + rest.length = lc
 msgs : ∀ (i : Nat) (r : List Msg) (t : Nat × Nat × Nat), l[i]? = some r -> ts[i]? = some t -> t.1 < w.heap.size /\ r.length <= t.2.2 /\ ∀ (j : Nat) (m : Msg), r[j]? = some m -> ∀ g : Nat, g < 12 -> w.cell? ⟨t.1, t.2.1 + (j * 12 + g), none⟩ = (msgV m)[g]?
 nodup : (b :: ((if l = [] then [] else [lb]) ++ ts.map (·.1))).Nodup
def blksB (l : List (List Msg)) (b lb : Nat) (ts : List (Nat × Nat × Nat)) : List Nat := b :: ((if l = [] then [] else [lb]) ++ ts.map (·.1))
def ObA (s : FS) (b : Nat) (φ : Nat -> Prop) (w : World) : Prop := RsOk s /\ ∃ lb lc ms ts, LayA s.win s.need s.now (s.l.map viewA) b lb lc ms ts w /\ ∀ i, φ i ↔ i ∈ blksA (s.l.map viewA) b lb ms ts
def ObB (s : FS) (b : Nat) (φ : Nat -> Prop) (w : World) : Prop := RsOk s /\ ∃ lb lc ts, LayB s.win s.need s.now s.l b lb lc ts w /\ ∀ i, φ i ↔ i ∈ blksB s.l b lb ts
def FrnOb (q : Nat) (vs : List Int) (b : Nat) (φ : Nat -> Prop) (w : World) : Prop :=
 match q, vs with
 | 1, [x] => ∃ s, code s = x /\ ObA s b φ w
 | 2, [x] => ∃ s, code s = x /\ ObB s b φ w
 | _, _ => False
theorem blk_lt {w : World} {i : Nat} {o : Obj} (h : w.heap[i]? = some o) : i < w.heap.size := (Array.getElem?_eq_some_iff.1 h).1
section
variable {win need now : Int} {b lb lc : Nat} {ms : List Nat} {ts : List (Nat × Nat)} {w w' : World}
theorem LayA.lt_of {l : List RV} (h : LayA win need now l b lb lc ms ts w) {i : Nat} (hi : i ∈ blksA l b lb ms ts) : i < w.heap.size := by
 unfold blksA at hi; simp only [mCo, List.mem_append] at hi; rcases hi with rfl | hi | hi | hi
 ·exact blk_lt h.head
 ·split at hi
  ·cases hi
  ·rename_i hl
   obtain rfl := List.mem_singleton.1 hi; obtain ⟨rest, h1, _⟩ := h.list hl; exact blk_lt h1
 ·obtain ⟨k, hk, rfl⟩ := List.getElem_of_mem hi
  have h1 : k < l.length := h.lm ▸ hk; have h2 : k < ts.length := by rw [h.lt]; exact h1
  exact blk_lt (h.recs k _ _ _ (lGe h1) (lGe hk) (lGe h2))
 ·obtain ⟨t, ht, rfl⟩ := List.mem_map.1 hi
  obtain ⟨k, hk, rfl⟩ := List.getElem_of_mem ht; have h1 : k < l.length := h.lt ▸ hk; obtain ⟨rest, h2, _⟩ := h.tims k _ _ (lGe h1) (lGe hk); exact blk_lt h2
theorem LayB.lt_of {l : List (List Msg)} {ts : List (Nat × Nat × Nat)} (h : LayB win need now l b lb lc ts w) {i : Nat} (hi : i ∈ blksB l b lb ts) : i < w.heap.size := by
 unfold blksB at hi; simp only [mCo, List.mem_append] at hi; rcases hi with rfl | hi | hi
 ·exact blk_lt h.head
 ·split at hi
  ·cases hi
  ·rename_i hl
   obtain rfl := List.mem_singleton.1 hi; obtain ⟨rest, h1, _⟩ := h.list hl; exact blk_lt h1
 ·obtain ⟨t, ht, rfl⟩ := List.mem_map.1 hi
  obtain ⟨k, hk, rfl⟩ := List.getElem_of_mem ht; have h1 : k < l.length := h.lt ▸ hk; exact (h.msgs k _ _ (lGe h1) (lGe hk)).1
theorem cell_congr {w w' : World} {b o : Nat} (h : w'.heap[b]? = w.heap[b]?) : w'.cell? ⟨b, o, none⟩ = w.cell? ⟨b, o, none⟩ := by
 unfold World.cell?; simp only [h]
theorem LayA.keep {l : List RV} (h : LayA win need now l b lb lc ms ts w) (hk : ∀ i, i ∈ blksA l b lb ms ts -> w'.heap[i]? = w.heap[i]?) : LayA win need now l b lb lc ms ts w' := by
 have hmem : ∀ i, (i = b \/ (l ≠ [] /\ i = lb) \/ i ∈ ms \/ i ∈ ts.map (·.1)) -> w'.heap[i]? = w.heap[i]? := fun i hi => hk i (by
  unfold blksA; simp only [mCo, List.mem_append]; rcases hi with h | ⟨h1, h⟩ | h | h
  ·exact .inl h
  ·rw [if_neg h1]; exact .inr (.inl (List.mem_singleton.2 h))
  ·exact .inr (.inr (.inl h))
  ·exact .inr (.inr (.inr h)))
 refine ⟨h.lm, h.lt, ?_, fun hl => ?_, fun i r m t h1 h2 h3 => ?_, fun i r t h1 h2 => ?_, h.nodup⟩
 ·rw [hmem b (.inl rfl)]; exact h.head
 ·rw [hmem lb (.inr (.inl ⟨hl, rfl⟩))]; exact h.list hl
 ·rw [hmem m (.inr (.inr (.inl (List.mem_of_getElem? h2))))]; exact h.recs i r m t h1 h2 h3
 ·rw [hmem t.1 (.inr (.inr (.inr (List.mem_map.2 ⟨t, List.mem_of_getElem? h2, rfl⟩))))]; exact h.tims i r t h1 h2
theorem LayB.keep {l : List (List Msg)} {ts : List (Nat × Nat × Nat)} (h : LayB win need now l b lb lc ts w) (hk : ∀ i, i ∈ blksB l b lb ts -> w'.heap[i]? = w.heap[i]?) : LayB win need now l b lb lc ts w' := by
 have hmem : ∀ i, (i = b \/ (l ≠ [] /\ i = lb) \/ i ∈ ts.map (·.1)) -> w'.heap[i]? = w.heap[i]? := fun i hi => hk i (by
  unfold blksB; simp only [mCo, List.mem_append]; rcases hi with h | ⟨h1, h⟩ | h
  ·exact .inl h
  ·rw [if_neg h1]; exact .inr (.inl (List.mem_singleton.2 h))
  ·exact .inr (.inr h))
 refine ⟨h.lt, ?_, fun hl => ?_, fun i r t h1 h2 => ?_, h.nodup⟩
 ·rw [hmem b (.inl rfl)]; exact h.head
 ·rw [hmem lb (.inr (.inl ⟨hl, rfl⟩))]; exact h.list hl
 ·have e := hmem t.1 (.inr (.inr (List.mem_map.2 ⟨t, List.mem_of_getElem? h2, rfl⟩)))
  obtain ⟨m1, m2, m3⟩ := h.msgs i r t h1 h2; refine ⟨?_, m2, fun j m hj g hg => by rw [cell_congr e]; exact m3 j m hj g hg⟩
  rw [Array.getElem?_eq_getElem m1] at e; exact blk_lt e
end
theorem FrnOb_lt {q : Nat} {vs : List Int} {b : Nat} {φ : Nat -> Prop} {w : World} (h : FrnOb q vs b φ w) : ∀ i, φ i -> i < w.heap.size := by
 unfold FrnOb at h; split at h
 ·obtain ⟨s, _, _, lb, lc, ms, ts, h1, h2⟩ := h
  exact fun i hi => h1.lt_of ((h2 i).1 hi)
 ·obtain ⟨s, _, _, lb, lc, ts, h1, h2⟩ := h
  exact fun i hi => h1.lt_of ((h2 i).1 hi)
 ·exact h.elim
theorem FrnOb_keep {q : Nat} {vs : List Int} {b : Nat} {φ : Nat -> Prop} {w w' : World} (h : FrnOb q vs b φ w) (hk : ∀ i, φ i -> w'.heap[i]? = w.heap[i]?) : FrnOb q vs b φ w' := by
 unfold FrnOb at h ⊢; split at h
 ·obtain ⟨s, e, ho, lb, lc, ms, ts, h1, h2⟩ := h
  exact ⟨s, e, ho, lb, lc, ms, ts, h1.keep fun i hi => hk i ((h2 i).2 hi), h2⟩
 ·obtain ⟨s, e, ho, lb, lc, ts, h1, h2⟩ := h
  exact ⟨s, e, ho, lb, lc, ts, h1.keep fun i hi => hk i ((h2 i).2 hi), h2⟩
 ·exact h.elim
end Frn
section
structure DS where
 (p1 cls acc vr p2 gm steps snd sp rcv rp : Int)
 deriving DecidableEq
namespace DsLaw
def I64 (n : Int) : Prop := -9223372036854775808 <= n /\ n <= 9223372036854775807
def U64 (n : Int) : Prop := 0 <= n /\ n <= 18446744073709551615
structure Ok (d : DS) : Prop where
 p1 : I64 d.p1
 cls : I64 d.cls
 acc : I64 d.acc
 vr : I64 d.vr
 p2 : I64 d.p2
 gm : U64 d.gm
 steps : I64 d.steps
 snd : U64 d.snd
 sp : I64 d.sp
 rcv : U64 d.rcv
 rp : I64 d.rp
def get (d : DS) : Nat -> Int
 | 0 => d.p1 | 1 => d.cls | 2 => d.acc | 3 => d.vr | 4 => d.p2 | 5 => d.gm | 6 => d.steps | 7 => d.snd | 8 => d.sp | 9 => d.rcv | _ => d.rp
def up (n : Int) : Int := n + 9223372036854775808
def rk (d : DS) (i : Nat) : Int := if i = 5 \/ i = 7 \/ i = 9 then get d i else up (get d i)
def cmpI (a b : Int) : Int := if a < b then -1 else if b < a then 1 else 0
theorem cmpI_rk (a b : DS) (i : Nat) : cmpI (rk a i) (rk b i) = cmpI (get a i) (get b i) := by
 unfold rk; split
 ·rfl
 ·unfold cmpI up; split <;> split <;> (try split) <;> (try split) <;> first | rfl | omega
def FL : List Nat := [0, 1, 2, 3, 4, 5, 6, 7, 8, 9, 10, 7, 10, 8]
def F (k : Nat) : Nat := FL.getD k 0
def lexF (a b : DS) : Nat -> Nat -> Int
 | _, 0 => 0
 | k, n + 1 => if cmpI (get a (F k)) (get b (F k)) = 0 then lexF a b (k + 1) n else cmpI (get a (F k)) (get b (F k))
theorem cmpI_cases (a b : Int) : cmpI a b = -1 /\ a < b \/ cmpI a b = 0 /\ a = b \/ cmpI a b = 1 /\ b < a := by
 unfold cmpI; split
 ·exact .inl ⟨rfl, by assumption⟩
 ·split
  ·exact .inr (.inr ⟨rfl, by assumption⟩)
  ·exact .inr (.inl ⟨rfl, by omega⟩)
theorem cmpI_swap (a b : Int) : cmpI b a = - cmpI a b := by
 rcases cmpI_cases a b with h | h | h <;> rcases cmpI_cases b a with g | g | g <;> omega
theorem lexF_range (a b : DS) : ∀ n k, lexF a b k n = -1 \/ lexF a b k n = 0 \/ lexF a b k n = 1
 | 0, _ => .inr (.inl rfl)
 | n + 1, k => by
  unfold lexF; split
  ·exact lexF_range a b n (k + 1)
  ·rcases cmpI_cases (get a (F k)) (get b (F k)) with h | h | h <;> omega
theorem lexF_swap (a b : DS) : ∀ n k, lexF b a k n = - lexF a b k n
 | 0, _ => rfl
 | n + 1, k => by
  have h1 := cmpI_swap (get a (F k)) (get b (F k)); have h2 := lexF_swap a b n (k + 1); unfold lexF; split <;> split <;> omega
theorem lexF_zero (a b : DS) : ∀ n k, lexF a b k n = 0 -> ∀ j, k <= j -> j < k + n -> get a (F j) = get b (F j)
 | 0, _, _, j, h1, h2 => by omega
 | n + 1, k, h, j, h1, h2 => by
  unfold lexF at h; split at h
  ·rename_i hc
   by_cases hj : j = k
   ·subst hj
    rcases cmpI_cases (get a (F j)) (get b (F j)) with g | g | g <;> omega
   ·exact lexF_zero a b n (k + 1) h j (by omega) (by omega)
  ·contradiction
theorem lexF_refl (a : DS) : ∀ n k, lexF a a k n = 0
 | 0, _ => rfl
 | n + 1, k => by
  have h : cmpI (get a (F k)) (get a (F k)) = 0 := by rcases cmpI_cases (get a (F k)) (get a (F k)) with g | g | g <;> omega
  unfold lexF; rw [if_pos h]; exact lexF_refl a n (k + 1)
theorem lexF_trans (a b c : DS) : ∀ n k, lexF a b k n <= 0 -> lexF b c k n <= 0 -> lexF a c k n <= 0 /\ (lexF a b k n < 0 \/ lexF b c k n < 0 -> lexF a c k n < 0)
 | 0, _, _, _ => by simp [lexF]
 | n + 1, k, h1, h2 => by
  have ih := lexF_trans a b c n (k + 1); unfold lexF at h1 h2 ⊢
  rcases cmpI_cases (get a (F k)) (get b (F k)) with g1 | g1 | g1 <;> rcases cmpI_cases (get b (F k)) (get c (F k)) with g2 | g2 | g2 <;>
   rcases cmpI_cases (get a (F k)) (get c (F k)) with g3 | g3 | g3 <;> simp only [g1.1, g2.1, g3.1] at h1 h2 ⊢ <;> first | omega | (simp at h1 h2 ⊢ <;> first | omega | exact ih h1 h2)
theorem lexF_split (a b : DS) : ∀ m n k, lexF a b k (m + n) = if lexF a b k m = 0 then lexF a b (k + m) n else lexF a b k m
 | 0, n, k => by simp [lexF]
 | m + 1, n, k => by
  have ih := lexF_split a b m n (k + 1); rw [Nat.succ_add, lexF, lexF]; split
  ·rw [ih, Nat.add_assoc, Nat.add_comm 1 m]
  ·rfl
theorem lexF_at (a b : DS) (k q : Nat) (h : k < q) : ((cmpI (rk a (F k)) (rk b (F k)) != 0) = false /\ lexF a b k (q - k) = lexF a b (k + 1) (q - (k + 1))) \/
  ((cmpI (rk a (F k)) (rk b (F k)) != 0) = true /\ lexF a b k (q - k) = cmpI (rk a (F k)) (rk b (F k))) := by
 obtain ⟨n, rfl⟩ : ∃ n, q = k + 1 + n := ⟨q - k - 1, by omega⟩
 rw [cmpI_rk, show k + 1 + n - k = n + 1 by omega, show k + 1 + n - (k + 1) = n by omega]
 by_cases hc : cmpI (get a (F k)) (get b (F k)) = 0
 ·exact .inl ⟨by simp [hc], by rw [lexF, if_pos hc]⟩
 ·exact .inr ⟨by simpa using hc, by rw [lexF, if_neg hc]⟩
theorem lexF_step (a b : DS) (k n : Nat) : (cmpI (get a (F k)) (get b (F k)) = 0 -> lexF a b k (n + 1) = lexF a b (k + 1) n) /\ (cmpI (get a (F k)) (get b (F k)) ≠ 0 -> lexF a b k (n + 1) = cmpI (get a (F k)) (get b (F k))) :=
 ⟨fun h => by rw [lexF, if_pos h], fun h => by rw [lexF, if_neg h]⟩
theorem lexF_one (a b : DS) (k : Nat) : lexF a b k 1 = cmpI (get a (F k)) (get b (F k)) := by
 unfold lexF lexF; split <;> simp [*]
def lt (a b : DS) : Prop := lexF a b 0 11 < 0
instance (a b : DS) : Decidable (lt a b) := inferInstanceAs (Decidable (_ < _))
theorem lex0 (a b : DS) (h : lexF a b 0 11 = 0) : a = b := by
 have g := lexF_zero a b 11 0 h; have h0 := g 0 (by omega) (by omega)
 have h1 := g 1 (by omega) (by omega)
 have h2 := g 2 (by omega) (by omega)
 have h3 := g 3 (by omega) (by omega)
 have h4 := g 4 (by omega) (by omega)
 have h5 := g 5 (by omega) (by omega)
 have h6 := g 6 (by omega) (by omega)
 have h7 := g 7 (by omega) (by omega)
 have h8 := g 8 (by omega) (by omega)
 have h9 := g 9 (by omega) (by omega)
 have h10 := g 10 (by omega) (by omega)
 obtain ⟨a0, a1, a2, a3, a4, a5, a6, a7, a8, a9, a10⟩ := a; obtain ⟨b0, b1, b2, b3, b4, b5, b6, b7, b8, b9, b10⟩ := b; simp only [F, FL, List.getD, get, List.getElem?_cons_zero, List.getElem?_cons_succ, Option.getD_some] at h0 h1 h2 h3 h4 h5 h6 h7 h8 h9 h10; subst h0 h1 h2 h3 h4 h5 h6 h7 h8 h9 h10; rfl
theorem lt_irrefl (a : DS) : ¬ lt a a := by unfold lt; rw [lexF_refl]; omega
theorem lt_trans {a b c : DS} (h1 : lt a b) (h2 : lt b c) : lt a c := (lexF_trans a b c 11 0 (by unfold lt at h1; omega) (by unfold lt at h2; omega)).2 (.inl h1)
theorem lt_asymm {a b : DS} (h : lt a b) : ¬ lt b a := fun g => lt_irrefl a (lt_trans h g)
theorem lt_total {a b : DS} (h : ¬ a = b) : lt a b \/ lt b a := by
 have h1 := lexF_swap a b 11 0; have h2 : lexF a b 0 11 ≠ 0 := fun e => h (lex0 a b e)
 unfold lt; omega
theorem not_lt_trans {a b c : DS} (h1 : ¬ lt b a) (h2 : ¬ lt c b) : ¬ lt c a := by
 have e1 := lexF_swap a b 11 0; have e2 := lexF_swap b c 11 0; have e3 := lexF_swap a c 11 0; unfold lt at *; have := (lexF_trans a b c 11 0 (by omega) (by omega)).1
 omega
def z : DS := ⟨0, 0, 0, 0, 0, 0, 0, 0, 0, 0, 0⟩
def best (l : List DS) : Nat -> Int
 | 0 => -1
 | k + 1 => if best l k < 0 \/ lt (l.getD k z) (l.getD (best l k).toNat z) then k else best l k
def behind (d : DS) (more better topo : Int) : Int := if 1 < more \/ d.rcv < d.snd then better else if d.snd < d.rcv then topo else 5
end DsLaw
end
section
open Go Frm Frn
def dsOf (l : List Int) : DS := ⟨l.headD 0, l.tail.headD 0, l.tail.tail.headD 0, l.tail.tail.tail.headD 0, l.tail.tail.tail.tail.headD 0, l.tail.tail.tail.tail.tail.headD 0, l.tail.tail.tail.tail.tail.tail.headD 0, l.tail.tail.tail.tail.tail.tail.tail.headD 0, l.tail.tail.tail.tail.tail.tail.tail.tail.headD 0, l.tail.tail.tail.tail.tail.tail.tail.tail.tail.headD 0, l.tail.tail.tail.tail.tail.tail.tail.tail.tail.tail.headD 0⟩
def ltB (a b : List Int) : Bool := decide (DsLaw.lt (dsOf a) (dsOf b))
def bestI (less : Nat -> Nat -> Bool) : Nat -> List Nat -> Nat
 | b, [] => b
 | b, i :: l => bestI less (if less i b = true then i else b) l
def bestK (q : List (List Int)) : Nat := bestI (fun i b => ltB (q.getD i []) (q.getD b [])) 0 (List.range' 1 (q.length - 1))
def bestD (q : List (List Int)) : List Int := if q = [] then [] else q.getD (bestK q) []
def goodN (x : Int) : Int := open Classical in if RsOk (dec x) then 1 else 0
def d0N : List Int := [0, 0, 0, 0, 0, 0, 0, 2, 1, 3, 0]
structure Solo (s : FS) (win need : Int) (ts : List Int) : Prop where
 ok : RsOk s
 win : s.win = win
 need : s.need = need
 now : s.now = ts.getLastD 0
 l : s.l = if ts = [] then [] else [ts.map fun t => ⟨d0N, t⟩]
def soloN (x win need : Int) (ts : List Int) : Int := open Classical in if Solo (dec x) win need ts then 1 else 0
def cntN (now win : Int) (ts : List Int) : Int := ((ts.filter fun t => decide (now - t < win)).length : Int)
def newS (win need : Int) : FS := ⟨win, need, 0, []⟩
structure WellD (d : List Int) (id : Int) : Prop where
 p1 : 0 <= d.getD 0 0 /\ d.getD 0 0 <= 255
 cls : 0 <= d.getD 1 0 /\ d.getD 1 0 <= 255
 acc : 0 <= d.getD 2 0 /\ d.getD 2 0 <= 255
 vr : 0 <= d.getD 3 0 /\ d.getD 3 0 <= 65535
 p2 : 0 <= d.getD 4 0 /\ d.getD 4 0 <= 255
 gm : d.getD 5 0 ≠ id
 steps : 0 <= d.getD 6 0 /\ d.getD 6 0 <= 65535
def wellN (x id : Int) : Int := open Classical in if ∀ r ∈ (dec x).l, r ≠ [] /\ ∀ m ∈ r, WellD m.d id then 1 else 0
structure StsOk (l : List Int) : Prop where
 rng : ∀ i, i < l.length -> 4 <= l.getD i 0 /\ l.getD i 0 <= 9
 one : ∀ i j, i < l.length -> j < l.length -> 7 < l.getD i 0 -> 7 < l.getD j 0 -> i = j
def stsN (l : List Int) : Int := open Classical in if StsOk l then 1 else 0
def ownL (q : List Int) : List Int := [q.getD 1 0, q.getD 2 0, q.getD 3 0, q.getD 4 0, q.getD 5 0, q.getD 0 0, 0, q.getD 0 0, 0, q.getD 0 0, 0]
def followN (q d : List Int) : Int := open Classical in if d = ownL q \/ (WellD d (q.getD 0 0) /\ ltB (ownL q) d = false) then 1 else 0
def FN : Mng := fun f j ns =>
 if f = 40 then code (hear (dec (ns.headD 0)) (ns.tail.take 11) (ns.getD 12 0))
 else if f = 41 then bad (dec (ns.headD 0)) (ns.tail.take 11) (ns.getD 12 0)
 else if f = 42 then ((qual (dec (ns.headD 0)) (ns.getD 1 0)).length : Int)
 else if f = 43 then ((qual (dec (ns.headD 0)) (ns.getD 1 0)).getD (ns.getD 2 0).toNat []).getD j 0
 else if f = 44 then ((dec (ns.headD 0)).l.length : Int)
 else if f = 45 then code (newS (ns.headD 0) (ns.getD 1 0))
 else if f = 46 then code (forget (dec (ns.headD 0)) (ns.getD 1 0))
 else if f = 47 then (gone (dec (ns.headD 0)) (ns.getD 1 0) : Int)
 else if f = 3 then (if ltB (ns.take 11) ((ns.drop 11).take 11) then 1 else 0)
 else if f = 48 then (bestD (qual (dec (ns.headD 0)) (ns.getD 1 0))).getD j 0
 else if f = 49 then (if qual (dec (ns.headD 0)) (ns.getD 1 0) = [] then 0 else 1)
 else if f = 50 then max 0 (dec (ns.headD 0)).now
 else if f = 51 then goodN (ns.headD 0)
 else if f = 52 then (dec (ns.headD 0)).win
 else if f = 53 then (dec (ns.headD 0)).need
 else if f = 54 then (if ns.drop 3 ∈ (qual (dec (ns.headD 0)) (ns.getD 1 0)).take (ns.getD 2 0).toNat then 1 else 0)
 else if f = 55 then soloN (ns.headD 0) (ns.getD 1 0) (ns.getD 2 0) (ns.drop 3)
 else if f = 56 then cntN (ns.headD 0) (ns.getD 1 0) (ns.drop 2)
 else if f = 39 then ns.getD 0 0 / 65536
 else if f = 57 then wellN (ns.headD 0) (ns.getD 1 0)
 else if f = 58 then followN (ns.take 6) (ns.drop 6)
 else if f = 59 then stsN ns
 else 0
def Low (F : Mng) : Prop := ∀ f, f < 60 -> F f = FN f
end
section
open Go SX
def iV (i : Nat) : SV := .int .i64 (.var i)
def uV (i : Nat) : SV := .int .u64 (.var i)
def bV (i : Nat) : SV := .bool (.var i)
def exFam : Nat -> Option Fam
 | 0 => some ⟨[⟨true, .cells [iV 0, bV 1, uV 2, iV 3, iV 4, iV 5, iV 6, bV 7, iV 8, iV 9, iV 10, bV 11, iV 12, iV 13, bV 14, iV 15] 118 0⟩], [], 16⟩
 | _ => none
def stV (i j : Nat) : Nat := 23 + 6 * i + j
def confV (n : Nat) : List SV := uV 0 :: (List.range 10).map fun i => if i = 6 then .int .i64 (.lit (Int.ofNat n)) else iV (i + 1)
def dsV (b : Nat) : List SV := [iV b, iV (b + 1), iV (b + 2), iV (b + 3), iV (b + 4), uV (b + 5), iV (b + 6), uV (b + 7), iV (b + 8), uV (b + 9), iV (b + 10)]
def staBx (i : Nat) : List Box := [⟨true, .cells [iV (stV i 0), .ptr (3 + 3 * i) 0, .ptr (4 + 3 * i) 0, iV (stV i 1), iV (stV i 2), iV (stV i 3)] 77 0⟩, ⟨true, .obj 1 [.var (stV i 4)]⟩, ⟨true, .obj 3 [.var (stV i 5)]⟩]
def clBx (n : Nat) : List Box := ⟨true, .cells (confV n ++ [.map 1] ++ dsV 11 ++ [iV 22]) 66 0⟩ :: ⟨true, .map ((List.range n).map fun i => (.int .i64 (.lit (Int.ofNat (i + 1))), .ptr (2 + 3 * i) 0, i)) n⟩ :: (List.range n).flatMap staBx
def ltF (a b : E) : E := .bin .lt .i64 a b
def inF (lo hi : Int) (i : Nat) : List (E × Bool) := [(ltF (.var i) (.lit lo), false), (ltF (.lit hi) (.var i), false)]
def oneF (e : E) : E × Bool := (.bin .eq .i64 e (.lit 1), true)
def stsE (n : Nat) : E := .app 59 0 ((List.range n).map fun i => .var (stV i 0))
def followE : E := .app 58 0 ((List.range 6 ++ (List.range' 11 11)).map .var)
def confR : List (E × Bool) := inF 0 255 1 ++ inF 0 255 2 ++ inF 0 255 3 ++ inF 0 65535 4 ++ inF 0 255 5 ++ inF 0 255 6 ++ inF 1 1125899906842624 8 ++ inF 1 8 9 ++ inF 1 1125899906842624 10
def clF (n : Nat) : List (E × Bool) := confR ++ [oneF followE] ++ inF 0 1125899906842624 22 ++ [oneF (stsE n)] ++ (List.range n).flatMap fun i => inF 0 65535 (stV i 1) ++ inF 0 65535 (stV i 2) ++ [oneF (.app 57 0 [.var (stV i 4), .var 0])]
def clFam : Nat -> Option Fam := fun n => if 1 <= n /\ n <= 8 then some ⟨clBx n, clF n, 23 + 6 * n⟩ else none
def exFamR : Nat -> Option Fam
 | 0 => some ⟨[⟨true, .cells [iV 0, bV 1, iV 2, iV 3, iV 4, iV 5, uV 6, iV 7, iV 8, iV 9, iV 10, iV 11, uV 12, iV 13, iV 14, iV 15, iV 16, iV 17, iV 18, iV 19, uV 20, iV 21, iV 22, iV 23, bV 24, iV 25, bV 26, iV 27, iV 28, bV 29, iV 30] 123 0⟩], [], 31⟩
 | _ => none
structure Rel where
 nv : Nat
 L : List E
 F : List (E × Bool)
 jl : List Nat
def envP (F : Mng) (l js : List Int) : Env := ⟨fun i => if i < 100 then l.getD i 0 else js.getD (i - 100) 0, fun _ _ _ => 0, F⟩
structure RelOk (A : Rel) (F : Mng) (ns ms js : List Int) : Prop where
 len : ns.length = A.nv
 nums : ms = E.evs (envP F ns js) A.L
 facts : SX.FsOk (envP F ns js) A.F
def exL (f : Nat -> E) : List E := [.var 0, .var 1] ++ (List.range 22).map f ++ [.var 7, .bin .sub .i64 (.bin .sub .i64 (.var 9) (.var 8)) (.var 10), .var 11, .var 12, .var 13, .var 14, .var 15]
def exJ0 : Rel := ⟨16, exL fun k => .var (100 + k), [(.var 1, false)], List.range' 2 22⟩
def exJ1 : Rel := ⟨16, exL fun k => if k = 3 then .var 6 else if k = 4 then .var 2 else if k = 5 then .var 3 else if k = 6 then .var 4 else if k = 21 then .var 5 else .var (100 + k), [(.var 1, true)], List.range' 2 22⟩
def exJs : List Rel := [exJ0, exJ1]
def staBxR (i : Nat) : List Box := [⟨true, .cells [iV (stV i 0), .ptr (3 + 3 * i) 0, .ptr (4 + 3 * i) 0, iV (stV i 1), iV (stV i 2), iV (stV i 3)] 89 0⟩, ⟨true, .obj 2 [.var (stV i 4)]⟩, ⟨true, .obj 4 [.var (stV i 5)]⟩]
def clBxR (n : Nat) : List Box := ⟨true, .cells (confV n ++ [.slice 1 0 n none] ++ dsV 11 ++ [iV 22]) 81 0⟩ :: ⟨true, .cells ((List.range n).map fun i => .ptr (2 + 3 * i) 0) 83 2⟩ :: (List.range n).flatMap staBxR
theorem exFam_ok : ∀ t a, exFam t = some a -> a.ok 60 = true := fun t a h => by
 unfold exFam at h; split at h
 ·obtain rfl := sinj h; rfl
 ·cases h
theorem clFam_all : ((List.range 9).all fun n => (clFam n).all fun a => a.ok 60) = true := by kernel_rfl
theorem clFam_ok : ∀ t a, clFam t = some a -> a.ok 60 = true := fun t a h => by
 by_cases c : 1 <= t /\ t <= 8
 ·have h1 := lAl.1 clFam_all t (mRa.2 (by omega))
  rw [h] at h1; exact h1
 ·unfold clFam at h; rw [if_neg c] at h; cases h
def clFamR : Nat -> Option Fam := fun n => if 1 <= n /\ n <= 8 then some ⟨clBxR n, clF n, 23 + 6 * n⟩ else none
theorem exFamR_ok : ∀ t a, exFamR t = some a -> a.ok 60 = true := fun t a h => by
 unfold exFamR at h; split at h
 ·obtain rfl := sinj h; rfl
 ·cases h
theorem clFamR_all : ((List.range 9).all fun n => (clFamR n).all fun a => a.ok 60) = true := by kernel_rfl
theorem clFamR_ok : ∀ t a, clFamR t = some a -> a.ok 60 = true := fun t a h => by
 by_cases c : 1 <= t /\ t <= 8
 ·have h1 := lAl.1 clFamR_all t (mRa.2 (by omega))
  rw [h] at h1; exact h1
 ·unfold clFamR at h; rw [if_neg c] at h; cases h
def codL (l : List Int) : Int := Int.ofNat (Frm.encL (l.map Frm.zN))
theorem codL_inj {a b : List Int} (h : codL a = codL b) : a = b := Frm.map_inj Frm.zN_inj (Frm.encL_inj (Int.ofNat.inj h))
def decL (x : Int) : List Int := open Classical in if h : ∃ l, codL l = x then Classical.choose h else []
theorem decL_cod (l : List Int) : decL (codL l) = l := by
 unfold decL; rw [dif_pos ⟨l, rfl⟩]; exact codL_inj (Classical.choose_spec (⟨l, rfl⟩ : ∃ l', codL l' = codL l))
def ExRel (X Y : Int) : Prop := ∃ ns ms js, X = codL (((0 : Nat) : Int) :: ns) /\ Y = codL (((0 : Nat) : Int) :: ms) /\ ∃ A ∈ exJs, RelOk A FN ns ms js
end
namespace SX
open Go
def Ob1 (q : Nat) (vs : List Int) (b : Nat) (φ : Nat -> Prop) (w : World) : Prop := Frn.FrnOb q vs b φ w
def Ob3 (q : Nat) (vs : List Int) (b : Nat) (φ : Nat -> Prop) (w : World) : Prop := if q = 3 then TOb Ob1 FN exFam codL vs b φ w else if q = 4 then ∃ X Y, vs = [X] /\ ExRel X Y /\ TOb Ob1 FN exFamR codL [Y] b φ w else Ob1 q vs b φ w
def Ob (q : Nat) (vs : List Int) (b : Nat) (φ : Nat -> Prop) (w : World) : Prop := if q = 5 then TOb Ob3 FN clFam codL vs b φ w else if q = 6 then TOb Ob3 FN clFamR codL vs b φ w else Ob3 q vs b φ w
theorem Ob3_lt {q : Nat} {vs : List Int} {b : Nat} {φ : Nat -> Prop} {w : World} (h : Ob3 q vs b φ w) : ∀ i, φ i -> i < w.heap.size := by
 unfold Ob3 at h; split at h
 ·exact TOb_lt (fun h => Frn.FrnOb_lt h) exFam_ok h
 ·split at h
  ·obtain ⟨_, _, _, _, h⟩ := h; exact TOb_lt (fun h => Frn.FrnOb_lt h) exFamR_ok h
  ·exact Frn.FrnOb_lt h
theorem Ob3_keep {q : Nat} {vs : List Int} {b : Nat} {φ : Nat -> Prop} {w w' : World} (h : Ob3 q vs b φ w) (hk : ∀ i, φ i -> w'.heap[i]? = w.heap[i]?) : Ob3 q vs b φ w' := by
 unfold Ob3 at h ⊢; split at h
 ·rename_i e; rw [if_pos e]; exact TOb_keep (fun h hk => Frn.FrnOb_keep h hk) exFam_ok h hk
 ·rename_i e; rw [if_neg e]
  split at h
  ·rename_i e; rw [if_pos e]; obtain ⟨X, Y, h1, h2, h⟩ := h; exact ⟨X, Y, h1, h2, TOb_keep (fun h hk => Frn.FrnOb_keep h hk) exFamR_ok h hk⟩
  ·rename_i e; rw [if_neg e]; exact Frn.FrnOb_keep h hk
theorem Ob_lt {q : Nat} {vs : List Int} {b : Nat} {φ : Nat -> Prop} {w : World} (h : Ob q vs b φ w) : ∀ i, φ i -> i < w.heap.size := by
 unfold Ob at h; split at h
 ·exact TOb_lt (fun h => Ob3_lt h) clFam_ok h
 ·split at h
  ·exact TOb_lt (fun h => Ob3_lt h) clFamR_ok h
  ·exact Ob3_lt h
theorem Ob_keep {q : Nat} {vs : List Int} {b : Nat} {φ : Nat -> Prop} {w w' : World} (h : Ob q vs b φ w) (hk : ∀ i, φ i -> w'.heap[i]? = w.heap[i]?) : Ob q vs b φ w' := by
 unfold Ob at h ⊢; split at h
 ·rename_i e; rw [if_pos e]; exact TOb_keep (fun h hk => Ob3_keep h hk) clFam_ok h hk
 ·rename_i e; rw [if_neg e]
  split at h
  ·rename_i e; rw [if_pos e]; exact TOb_keep (fun h hk => Ob3_keep h hk) clFamR_ok h hk
  ·rename_i e; rw [if_neg e]; exact Ob3_keep h hk
end SX
end
end Go.Proofs.YtfcpmapfhgibpaaGreatDoor
