/-
  What is known of calls: for the interpreter: a call that was run already is not run again.
-/
import Derived.Test.YthhfolohakiemaaGreatDoorSort
set_option linter.unusedVariables false
namespace Go.Ped
open Go.RowKit

/-- A call, and what it came to; the next number behind it. -/
structure Kn where
  g : Nat
  xs : List AV
  pre : List (Nat × Ob)
  r : AV
  upd : List (Nat × Ob)
  nb : Nat

def obsEq : List (Nat × Ob) → List (Nat × Ob) → Bool
  | [], [] => true
  | (i, x) :: l, (j, y) :: m => Nat.beq i j && (Ob.beq x y && obsEq l m)
  | _, _ => false

theorem obsEq_eq : ∀ {l m : List (Nat × Ob)}, obsEq l m = true → l = m
  | [], [], _ => rfl
  | (i, x) :: l, (j, y) :: m, h => by
    simp only [obsEq, Bool.and_eq_true] at h
    rw [Nat.eq_of_beq_eq_true h.1, Ob.beq_eq h.2.1, obsEq_eq h.2.2]
  | [], _ :: _, h => by cases h
  | _ :: _, [], h => by cases h

def knownK : List Kn → Handler
  | [] => noH
  | k :: l => fun g xs pre nb => bif Nat.beq k.g g && (AV.beqL k.xs xs && obsEq k.pre pre) then some (k.r, k.upd, Nat.max nb k.nb) else knownK l g xs pre nb

/-- It was so. -/
def Kn.ok (P : Program) (k : Kn) : Prop := Spec P k.g k.xs k.pre k.r k.upd

theorem knownK_ok {P : Program} : ∀ {l : List Kn}, (∀ k, k ∈ l → k.ok P) → (knownK l).ok P
  | [], _ => noH_ok
  | k :: l, h => by
    intro g xs pre nb r upd nb' hh
    simp only [knownK] at hh
    cases hc : (Nat.beq k.g g && (AV.beqL k.xs xs && obsEq k.pre pre)) with
    | false => rw [hc] at hh; exact knownK_ok (fun k' hk => h k' (List.mem_cons_of_mem _ hk)) g xs pre nb r upd nb' hh
    | true =>
      rw [hc] at hh
      simp only [cond_true] at hh
      injection hh with hh
      simp only [Prod.mk.injEq] at hh
      obtain ⟨rfl, rfl, _⟩ := hh
      simp only [Bool.and_eq_true] at hc
      have h1 := Nat.eq_of_beq_eq_true hc.1
      have h2 := AV.beqL_eq _ _ hc.2.1
      have h3 := obsEq_eq hc.2.2
      subst h1; subst h2; subst h3
      exact h k (by simp)

/-- What a run came to is what is said. -/
def agrees (x : Option (AV × List (Nat × Ob) × Nat)) (k : Kn) : Bool :=
  match x with
  | some (r, u, n) => AV.beq r k.r && obsEq u k.upd
  | none => false

theorem known_run {P : Program} (hmix : P.follows .mixedOrders = true) {K : Handler} (hK : K.ok P) {f nb : Nat} {k : Kn} (h : agrees (callH P (runI P K f) k.g k.xs k.pre nb) k = true) : k.ok P := by
  unfold agrees at h
  split at h
  · rename_i r u n hh
    simp only [Bool.and_eq_true] at h
    have h1 := AV.beq_eq _ _ h.1
    have h2 := obsEq_eq h.2
    subst h1
    unfold Kn.ok
    rw [← h2]
    exact spec_run hK hmix hh
  · cases h

/-- A list of known calls, one by one. -/
def Kns (P : Program) (l : List Kn) : Prop := ∀ k, k ∈ l → k.ok P

theorem Kns.nil {P : Program} : Kns P [] := fun k h => by cases h
theorem Kns.cons {P : Program} {k : Kn} {l : List Kn} (h : k.ok P) (hl : Kns P l) : Kns P (k :: l) := by
  intro k' h'
  rcases List.mem_cons.1 h' with rfl | h'
  · exact h
  · exact hl k' h'

end Go.Ped
