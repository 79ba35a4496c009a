/-
  The engine, part 17: code. A way through it; what is told of a part of it; loops, turn by turn.
-/
import Derived.Test.YthhfolohakiemaaGreatDoorRun
set_option linter.unusedVariables false
namespace Go.Ped
open Go.RowKit

def Out.x : Out → Exit
  | .normal => .normal
  | .exit id => .exit id
  | .ret => .ret

/-- From any frame and world that stand for the one state, the code ends so, and they stand for the other. -/
def Runs (P : Program) (n : Nat) (c : Code) (st : St) (e : Out) (st' : St) : Prop :=
  ∀ (F : Fr) (a : Act) (w : World), At F n st a w → c.wp P (fun e' a' w' => e' = e.x ∧ At F n st' a' w') a w

/-- The same of a loop, whose body is given. -/
def Loops (P : Program) (n : Nat) (c : Code) (st : St) (e : Out) (st' : St) : Prop :=
  ∃ k, ∀ (F : Fr) (a : Act) (w : World), At F n st a w → Code.rounds P c (fun e' a' w' => e' = e.x ∧ At F n st' a' w') k a w

/-- What stands for the one stands for the other. -/
def Le (n : Nat) (st st' : St) : Prop := ∀ (F : Fr) (a : Act) (w : World), At F n st a w → At F n st' a w

section
variable {P : Program} {n : Nat} {c : Code} {st st' st1 st2 : St} {e : Out}

theorem Le.refl (st : St) : Le n st st := fun _ _ _ h => h
theorem Le.trans (h : Le n st st1) (k : Le n st1 st2) : Le n st st2 := fun F a w x => k F a w (h F a w x)

theorem Runs.pre (h : Runs P n c st1 e st') (k : Le n st st1) : Runs P n c st e st' := fun F a w x => h F a w (k F a w x)
theorem Runs.post (h : Runs P n c st e st1) (k : Le n st1 st') : Runs P n c st e st' :=
  fun F a w x => wp_mono (h F a w x) fun e' a' w' ⟨h1, h2⟩ => ⟨h1, k F a' w' h2⟩

theorem rounds_mono {Q Q' : Exit → Act → World → Prop} (hq : ∀ e a w, Q e a w → Q' e a w) : ∀ {k : Nat} {a : Act} {w : World}, Code.rounds P c Q k a w → Code.rounds P c Q' k a w
  | 0, _, _, h => h
  | k + 1, a, w, h => by
    rw [rounds_succ] at h ⊢
    refine wp_mono h fun e' a' w' hh => ?_
    cases e' <;> simp only [Exit.then] at hh ⊢ <;> first | exact rounds_mono hq hh | exact hq _ _ _ hh

theorem Loops.pre (h : Loops P n c st1 e st') (k : Le n st st1) : Loops P n c st e st' := by
  obtain ⟨m, h⟩ := h
  exact ⟨m, fun F a w x => h F a w (k F a w x)⟩
theorem Loops.post (h : Loops P n c st e st1) (k : Le n st1 st') : Loops P n c st e st' := by
  obtain ⟨m, h⟩ := h
  exact ⟨m, fun F a w x => rounds_mono (fun e' a' w' ⟨h1, h2⟩ => ⟨h1, k F a' w' h2⟩) (h F a w x)⟩

/-- The turn that leaves the loop. -/
theorem Loops.leave (h : Runs P n c st e st') (he : e ≠ .normal) : Loops P n c st e st' := by
  refine ⟨1, fun F a w x => ?_⟩
  rw [rounds_succ]
  refine wp_mono (h F a w x) fun e' a' w' hh => ?_
  obtain ⟨h1, h2⟩ := hh
  subst h1
  cases e with
  | normal => exact absurd rfl he
  | exit id => exact ⟨rfl, h2⟩
  | ret => exact ⟨rfl, h2⟩

/-- A turn that is not the last. -/
theorem Loops.turn (h : Runs P n c st .normal st1) (k : Loops P n c st1 e st') : Loops P n c st e st' := by
  obtain ⟨m, k⟩ := k
  refine ⟨m + 1, fun F a w x => ?_⟩
  rw [rounds_succ]
  refine wp_mono (h F a w x) fun e' a' w' hh => ?_
  obtain ⟨h1, h2⟩ := hh
  subst h1
  exact k F a' w' h2

/-- So many turns, then the rest. -/
theorem Loops.upto {st : Nat → St} {N : Nat} (step : ∀ i, i < N → Runs P n c (st i) .normal (st (i + 1))) (last : Loops P n c (st N) e st') : ∀ (k : Nat), k ≤ N → Loops P n c (st (N - k)) e st' := by
  intro k
  induction k with
  | zero => intro _; exact last
  | succ k ih =>
    intro hk
    have h1 := step (N - (k + 1)) (by omega)
    have h2 : N - (k + 1) + 1 = N - k := by omega
    rw [h2] at h1
    exact Loops.turn h1 (ih (by omega))

theorem Loops.from {st : Nat → St} {N : Nat} (step : ∀ i, i < N → Runs P n c (st i) .normal (st (i + 1))) (last : Loops P n c (st N) e st') : Loops P n c (st 0) e st' := by
  have := Loops.upto step last N (Nat.le_refl N)
  rwa [Nat.sub_self] at this

theorem Loops.runs (h : Loops P n c st e st') : Runs P n (.loop c) st e st' := by
  obtain ⟨m, h⟩ := h
  exact fun F a w x => wp_loop_rounds m (h F a w x)

/-- A way through code. -/
def evalC (P : Program) (n base : Nat) : Code → List Dir → St → Option (Out × St × List Cond × List Dir)
  | .skip, sc, st => some (.normal, st, [], sc)
  | .label _, sc, st => some (.normal, st, [], sc)
  | .exit id, sc, st => some (.exit id, st, [], sc)
  | .ret, sc, st => some (.ret, st, [], sc)
  | .region _ ops draw, sc, st => match regionA P n base ops draw sc st with
    | some (st', cs, sc') => some (.normal, st', cs, sc')
    | none => none
  | .seq a b, sc, st => match evalC P n base a sc st with
    | some (.normal, st', cs, sc') => match evalC P n base b sc' st' with
      | some (e, st'', cs', sc'') => some (e, st'', cs ++ cs', sc'')
      | none => none
    | some (.exit id, st', cs, sc') => some (.exit id, st', cs, sc')
    | some (.ret, st', cs, sc') => some (.ret, st', cs, sc')
    | none => none
  | .cond c x y, sc, st => match sc with
    | .part e env hp :: sc => some (e, ⟨env, hp⟩, [rawC (Runs P n (.cond c x y) st e ⟨env, hp⟩)], sc)
    | sc => match evalA st.env c with
      | .bool true => evalC P n base x sc st
      | .bool false => evalC P n base y sc st
      | _ => none
  | .block id body, sc, st => match sc with
    | .part e env hp :: sc => some (e, ⟨env, hp⟩, [rawC (Runs P n (.block id body) st e ⟨env, hp⟩)], sc)
    | sc => match evalC P n base body sc st with
      | some (.exit i, st', cs, sc') => if i = id then some (.normal, st', cs, sc') else some (.exit i, st', cs, sc')
      | some (.normal, st', cs, sc') => some (.normal, st', cs, sc')
      | some (.ret, st', cs, sc') => some (.ret, st', cs, sc')
      | none => none
  | .loop body, sc, st => match sc with
    | .sum e env hp :: sc => some (e, ⟨env, hp⟩, [rawC (Loops P n body st e ⟨env, hp⟩)], sc)
    | _ => none
  | _, _, _ => none

theorem wp_of {c : Code} {Q : Exit → Act → World → Prop} {F : Fr} {a : Act} {w : World} (h : Runs P n c st e st') (hA : At F n st a w) (hQ : ∀ a w, At F n st' a w → Q e.x a w) : c.wp P Q a w :=
  wp_mono (h F a w hA) fun e' a' w' ⟨h1, h2⟩ => by rw [h1]; exact hQ a' w' h2

set_option maxHeartbeats 1000000 in
theorem evalC_sound {base : Nat} (hmix : P.follows .mixedOrders = true) : ∀ (c : Code) {sc sc' : List Dir} {st st' : St} {e : Out} {cs : List Cond}, evalC P n base c sc st = some (e, st', cs, sc') → (∀ p, p ∈ cs → p.p) → Runs P n c st e st' := by
  intro c
  induction c with
  | skip =>
    intro sc sc' st st' e cs h hc F a w hA
    injection h with h; simp only [Prod.mk.injEq] at h; obtain ⟨rfl, rfl, rfl, rfl⟩ := h
    exact wp_skip ⟨rfl, hA⟩
  | label l =>
    intro sc sc' st st' e cs h hc F a w hA
    injection h with h; simp only [Prod.mk.injEq] at h; obtain ⟨rfl, rfl, rfl, rfl⟩ := h
    exact wp_label ⟨rfl, hA⟩
  | exit id =>
    intro sc sc' st st' e cs h hc F a w hA
    injection h with h; simp only [Prod.mk.injEq] at h; obtain ⟨rfl, rfl, rfl, rfl⟩ := h
    exact wp_exit ⟨rfl, hA⟩
  | ret =>
    intro sc sc' st st' e cs h hc F a w hA
    injection h with h; simp only [Prod.mk.injEq] at h; obtain ⟨rfl, rfl, rfl, rfl⟩ := h
    exact wp_ret ⟨rfl, hA⟩
  | region id ops draw =>
    intro sc sc' st st' e cs h hc F a w hA
    simp only [evalC] at h
    cases hr : regionA P n base ops draw sc st with
    | none => rw [hr] at h; cases h
    | some x =>
      obtain ⟨s, c, d⟩ := x
      rw [hr] at h
      injection h with h; simp only [Prod.mk.injEq] at h; obtain ⟨rfl, rfl, rfl, rfl⟩ := h
      exact region_sound hmix hr hc (fun a w h => ⟨rfl, h⟩) hA
  | seq x y ihx ihy =>
    intro sc sc' st st' e cs h hc F a w hA
    simp only [evalC] at h
    cases hx : evalC P n base x sc st with
    | none => rw [hx] at h; cases h
    | some r =>
      obtain ⟨e1, s1, c1, d1⟩ := r
      rw [hx] at h
      cases e1 with
      | normal =>
        simp only at h
        cases hy : evalC P n base y d1 s1 with
        | none => rw [hy] at h; cases h
        | some r2 =>
          obtain ⟨e2, s2, c2, d2⟩ := r2
          rw [hy] at h
          injection h with h; simp only [Prod.mk.injEq] at h; obtain ⟨rfl, rfl, rfl, rfl⟩ := h
          refine wp_seq (wp_of (ihx hx fun p hp => hc p (List.mem_append_left _ hp)) hA fun a' w' hA' => ?_)
          exact ihy hy (fun p hp => hc p (List.mem_append_right _ hp)) F a' w' hA'
      | exit id =>
        injection h with h; simp only [Prod.mk.injEq] at h; obtain ⟨rfl, rfl, rfl, rfl⟩ := h
        exact wp_seq (wp_of (ihx hx hc) hA fun a' w' hA' => ⟨rfl, hA'⟩)
      | ret =>
        injection h with h; simp only [Prod.mk.injEq] at h; obtain ⟨rfl, rfl, rfl, rfl⟩ := h
        exact wp_seq (wp_of (ihx hx hc) hA fun a' w' hA' => ⟨rfl, hA'⟩)
  | cond o x y ihx ihy =>
    intro sc sc' st st' e cs h hc
    unfold evalC at h
    split at h
    · injection h with h; simp only [Prod.mk.injEq] at h; obtain ⟨rfl, rfl, rfl, rfl⟩ := h
      exact hc _ (List.mem_singleton.2 rfl)
    · intro F a w hA
      obtain ⟨S, β, E, M⟩ := hA
      have hv := evalA_sound E o
      generalize hX : evalA st.env o = X at h hv
      generalize hxx : a.eval o = xv at hv
      cases X with
      | bool b =>
        cases hv with
        | bool b =>
          cases b with
          | true => exact wp_cond_true hxx (ihx h hc F a w ⟨S, β, E, M⟩)
          | false => exact wp_cond_false hxx (ihy h hc F a w ⟨S, β, E, M⟩)
      | _ => cases h
  | block id body ih =>
    intro sc sc' st st' e cs h hc
    unfold evalC at h
    split at h
    · injection h with h; simp only [Prod.mk.injEq] at h; obtain ⟨rfl, rfl, rfl, rfl⟩ := h
      exact hc _ (List.mem_singleton.2 rfl)
    · intro F a w hA
      refine wp_block ?_
      cases hb : evalC P n base body sc st with
      | none => rw [hb] at h; cases h
      | some r =>
        obtain ⟨e1, s1, c1, d1⟩ := r
        rw [hb] at h
        cases e1 with
        | exit i =>
          simp only at h
          by_cases hi : i = id
          · rw [if_pos hi] at h
            injection h with h; simp only [Prod.mk.injEq] at h; obtain ⟨rfl, rfl, rfl, rfl⟩ := h
            refine wp_of (ih hb hc) hA fun a' w' hA' => ?_
            simp only [Out.x, Exit.inBlock, if_pos hi]
            exact ⟨trivial, hA'⟩
          · rw [if_neg hi] at h
            injection h with h; simp only [Prod.mk.injEq] at h; obtain ⟨rfl, rfl, rfl, rfl⟩ := h
            refine wp_of (ih hb hc) hA fun a' w' hA' => ?_
            simp only [Out.x, Exit.inBlock, if_neg hi]
            exact ⟨trivial, hA'⟩
        | normal =>
          injection h with h; simp only [Prod.mk.injEq] at h; obtain ⟨rfl, rfl, rfl, rfl⟩ := h
          exact wp_of (ih hb hc) hA fun a' w' hA' => ⟨rfl, hA'⟩
        | ret =>
          injection h with h; simp only [Prod.mk.injEq] at h; obtain ⟨rfl, rfl, rfl, rfl⟩ := h
          exact wp_of (ih hb hc) hA fun a' w' hA' => ⟨rfl, hA'⟩
  | loop body ih =>
    intro sc sc' st st' e cs h hc
    unfold evalC at h
    split at h
    · injection h with h; simp only [Prod.mk.injEq] at h; obtain ⟨rfl, rfl, rfl, rfl⟩ := h
      exact (hc _ (List.mem_singleton.2 rfl)).runs
    · cases h
  | _ => intro sc sc' st st' e cs h; cases h

end
end Go.Ped
