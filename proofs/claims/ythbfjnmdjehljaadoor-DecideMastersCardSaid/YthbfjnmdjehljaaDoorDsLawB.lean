/- More of the plain law of package dataset. -/
import Derived.Test.YthbfjnmdjehljaaDoorDsLaw
namespace Go.Proofs.YthbfjnmdjehljaaDoor.DsLaw

theorem lexF_path (a b : DS) : lexF a b 11 3 = if cmpI a.snd b.snd = 0 then (if cmpI a.rp b.rp = 0 then cmpI a.sp b.sp else cmpI a.rp b.rp) else cmpI a.snd b.snd := by
  have e : F 11 = 7 ∧ F 12 = 10 ∧ F 13 = 8 := by decide
  unfold lexF lexF lexF lexF
  rw [e.1, e.2.1, e.2.2]
  show (if cmpI a.snd b.snd = 0 then (if cmpI a.rp b.rp = 0 then (if cmpI a.sp b.sp = 0 then 0 else cmpI a.sp b.sp) else cmpI a.rp b.rp) else cmpI a.snd b.snd) = _
  repeat' split
  all_goals first | rfl | simp_all
theorem lexF_less (a b : DS) : lexF a b 0 11 = if lexF a b 0 6 = 0 then (if cmpI a.steps b.steps = 0 then (if cmpI a.snd b.snd = 0 then (if cmpI a.sp b.sp = 0 then (if cmpI a.rcv b.rcv = 0 then cmpI a.rp b.rp else cmpI a.rcv b.rcv) else cmpI a.sp b.sp) else cmpI a.snd b.snd) else cmpI a.steps b.steps) else lexF a b 0 6 := by
  rw [show (11 : Nat) = 6 + 5 from rfl, lexF_split]
  have e : F 6 = 6 ∧ F 7 = 7 ∧ F 8 = 8 ∧ F 9 = 9 ∧ F 10 = 10 := by decide
  have h5 : lexF a b (0 + 6) 5 = if cmpI a.steps b.steps = 0 then (if cmpI a.snd b.snd = 0 then (if cmpI a.sp b.sp = 0 then (if cmpI a.rcv b.rcv = 0 then cmpI a.rp b.rp else cmpI a.rcv b.rcv) else cmpI a.sp b.sp) else cmpI a.snd b.snd) else cmpI a.steps b.steps := by
    rw [Nat.zero_add]
    unfold lexF lexF lexF lexF lexF lexF
    rw [e.1, e.2.1, e.2.2.1, e.2.2.2.1, e.2.2.2.2]
    show (if cmpI a.steps b.steps = 0 then (if cmpI a.snd b.snd = 0 then (if cmpI a.sp b.sp = 0 then (if cmpI a.rcv b.rcv = 0 then (if cmpI a.rp b.rp = 0 then 0 else cmpI a.rp b.rp) else cmpI a.rcv b.rcv) else cmpI a.sp b.sp) else cmpI a.snd b.snd) else cmpI a.steps b.steps) = _
    repeat' split
    all_goals first | rfl | simp_all
  rw [h5]
end Go.Proofs.YthbfjnmdjehljaaDoor.DsLaw
