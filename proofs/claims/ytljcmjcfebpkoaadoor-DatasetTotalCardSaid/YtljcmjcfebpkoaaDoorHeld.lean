/- A walk through a region that draws its order and has operations whose guards are false: 'held_walk (arm) (keep)' from a goal 'wpAnyH ..', the condition at the world at hand being the hypothesis hHeld. -/
import Derived.Deep.RegionHeld3
namespace Go
open Lean Elab Tactic Meta

/-- A trial of t that must close what it opens; the state is given back where it fails. -/
def heldTry (x : TacticM Unit) : TacticM Bool := do
  let s ← saveState
  try
    Tactic.withoutRecover x
    pure true
  catch _ =>
    s.restore
    pure false

partial def heldWalk (arm keep : TSyntax `tactic) : TacticM Unit := withMainContext do
  let t := (← instantiateMVars (← getMainTarget)).consumeMData
  unless t.isAppOfArity ``wpAnyH 9 do throwError "held_walk: the goal is no 'wpAnyH':\n{t}"
  let args := t.getAppArgs
  let md := args[1]!
  let ops := args[2]!
  let listed := args[6]!
  let ready ← kernelNats (mkApp3 (mkConst ``Region.ready) md ops listed)
  if ready.isEmpty then
    evalTactic (← `(tactic| refine wpAnyH_done (by kernel_rfl) ?_ _))
    return
  let held := mkIdent `hHeld
  for i in ready do
    unless ← kernelBool (mkApp4 (mkConst ``Region.free) md ops listed (mkNatLit i)) do continue
    let some oe := opAt ops i | throwError "held_walk: the region is not written out"
    let oStx ← Term.exprToSyntax oe
    let isCall := opHead ops i == some ``Op.call
    -- a guard that is false
    let mut took ← heldTry do
      evalTactic (← `(tactic| refine wpAnyH_take (i := $(quote i)) (oi := $oStx) (v := undef) rfl (by kernel_rfl) (by kernel_rfl) (by kernel_rfl) (fun _ _ _ h => h) (Or.inr ⟨by rfl, rfl⟩) $held ?_))
    unless took || isCall do
      took ← heldTry do
        evalTactic (← `(tactic| refine wpAnyH_take (i := $(quote i)) (oi := $oStx) (v := ?_) rfl (by kernel_rfl) (by kernel_rfl) (by kernel_rfl) (fun _ _ _ h => h) (Or.inl ⟨by rfl, ?_⟩) $held ?_))
        let [_, hy, rest] ← getGoals | throwError "three goals expected"
        setGoals [hy]
        evalTactic (← `(tactic| (intro w hSw; (try dsimp only at hSw); go_simp)))
        unless (← getGoals).isEmpty do evalTactic (← `(tactic| with_reducible rfl))
        unless (← getGoals).isEmpty do throwError "not closed"
        setGoals [rest]
    if took then
      evalTactic (← `(tactic| try simp only [Act.put, List.setIfInBounds_toArray, List.set_cons_zero, List.set_cons_succ]))
      heldWalk arm keep
      return
  let [i] := ready | throwError "held_walk: several may come up, and none can be taken first: {ready}"
  let some oe := opAt ops i | throwError "held_walk: the region is not written out"
  let oStx ← Term.exprToSyntax oe
  let hK := mkIdent `hK
  let K := mkIdent `K
  let hNew := mkIdent `hNew
  evalTactic (← `(tactic| refine wpAnyH_ready (rs := [$(quote i)]) (by kernel_rfl) (by simp) ?_))
  evalTactic (← `(tactic| refine AllReadyH.cons (o := $oStx) rfl (fun $K $hK => ?_) AllReadyH.nil))
  evalTactic (← `(tactic| go_simp))
  evalTactic arm
  evalTactic (← `(tactic| go_wp2_with fail))
  evalTactic (← `(tactic| refine ($hK).out _ _ ?_ (fun $hNew => ?_)))
  let [g1, g2] ← getGoals | throwError "held_walk: two goals expected behind the call {i}"
  setGoals [g1]
  evalTactic keep
  unless (← getUnsolvedGoals).isEmpty do throwError "held_walk: the condition is not shown behind the call {i}"
  setGoals [g2]
  evalTactic (← `(tactic| clear $hK $K $held))
  evalTactic (← `(tactic| (have $held := $hNew; clear $hNew)))
  evalTactic (← `(tactic| try simp only [Act.put, List.setIfInBounds_toArray, List.set_cons_zero, List.set_cons_succ]))
  heldWalk arm keep

syntax (name := heldWalkStx) "held_walk " "(" tacticSeq ")" "(" tacticSeq ")" : tactic
elab_rules : tactic
  | `(tactic| held_walk ($arm:tacticSeq) ($keep:tacticSeq)) => do
    let a ← `(tactic| ($arm:tacticSeq))
    let k ← `(tactic| ($keep:tacticSeq))
    heldWalk a k
end Go
