/-
  The engine, part 21: a way through code and what is kept of it, in one step; parts of code by their number.
-/
import Derived.Test.YthhfolohakiemaaGreatDoorCall
import Derived.KernelRfl
set_option linter.unusedVariables false
namespace Go.Ped
open Go.RowKit

def loopsOf : Code → List Code
  | .seq a b => loopsOf a ++ loopsOf b
  | .cond _ a b => loopsOf a ++ loopsOf b
  | .block _ a => loopsOf a
  | .loop a => a :: loopsOf a
  | .scope a => loopsOf a
  | _ => []

/-- Parts that can be told as one: choices and blocks. -/
def partsOf : Code → List Code
  | .seq a b => partsOf a ++ partsOf b
  | .cond c a b => .cond c a b :: (partsOf a ++ partsOf b)
  | .block i a => .block i a :: partsOf a
  | .loop a => partsOf a
  | .scope a => partsOf a
  | _ => []

def bodyOf (f : Func) : Code := f.body.getD .skip
def loopOf (f : Func) (k : Nat) : Code := ((loopsOf (bodyOf f))[k]?).getD .skip
def partOf (f : Func) (k : Nat) : Code := ((partsOf (bodyOf f))[k]?).getD .skip

def allP : List Prop → Prop
  | [] => True
  | p :: r => p ∧ allP r

theorem allP_mem : ∀ {l : List Prop}, allP l → ∀ p, p ∈ l → p
  | [], _, p, h => by simp at h
  | q :: r, h, p, hp => by
    rcases List.mem_cons.1 hp with rfl | hp
    · exact h.1
    · exact allP_mem h.2 p hp

/-- A way, and what is kept behind it. -/
def pathA (P : Program) (n base : Nat) (c : Code) (sc : List Dir) (st : St) (slots : List Nat) (tb : List (Nat × Rk)) : Option (Out × St × List Prop) :=
  match evalC P n base c sc st with
  | some (e, st1, cs, []) => match renSt slots tb st1 with
    | some (st2, cs2) => some (e, st2, cs.map Cond.p ++ cs2)
    | none => none
  | _ => none

theorem pathA_sound {P : Program} (hmix : P.follows .mixedOrders = true) {n base : Nat} {c : Code} {sc : List Dir} {st st' : St} {slots : List Nat} {tb : List (Nat × Rk)} {e : Out} {cs : List Prop} (h : pathA P n base c sc st slots tb = some (e, st', cs)) (hc : allP cs) :
    Runs P n c st e st' := by
  unfold pathA at h
  split at h
  · rename_i e1 st1 cs1 h1
    cases hr : renSt slots tb st1 with
    | none => rw [hr] at h; cases h
    | some x =>
      obtain ⟨s2, c2⟩ := x
      rw [hr] at h
      injection h with h
      simp only [Prod.mk.injEq] at h
      obtain ⟨rfl, rfl, rfl⟩ := h
      have hm := allP_mem hc
      exact (evalC_sound hmix c h1 fun p hp => hm p.p (List.mem_append_left _ (List.mem_map.2 ⟨p, hp, rfl⟩))).post (renSt_le hr fun p hp => hm p (List.mem_append_right _ hp))
  · cases h

end Go.Ped
