/-
  The engine, part 14a: 'clear' of a slice; 'max' and 'min' of two integers.
-/
import Derived.Test.YthhfolohakiemaaGreatDoorSound11
set_option linter.unusedVariables false
namespace Go.Ped
open Go.RowKit

section
variable {P : Program} {F : Fr} {S : Blk} {β : Beta} {hp : List (Nat × Ob)} {w : World} {a : Act} {o : Oper} {res : Res} {rd : List Nat} {sc : List Dir}

theorem ok_clear {t : TypeId} {x : Operand} {X : AV} (ho : o.op = .call ⟨.builtin .clear, #[x], #[t]⟩) (M : Mem F S β hp w) (hx : V S β w (a.eval x) X) (hr : (clearA P t X sc).run (look hp) = some (res, rd)) (hc : ∀ c, c ∈ res.cs → c.p) :
    OpOK P F S β hp w a o res := by
  have exec : ∀ {v : Value} {w' : World}, (Builtin.clear_ #[t] o.type #[a.eval x]).run P w = .ok v w' → (execOp a.eval o).run P w = .ok (.value v) w' := by
    intro v w' h
    simp [execOp, ho, resolve, invoke, builtin, h]
  unfold clearA at hr
  cases hu : P.underlying t with
  | none => rw [hu] at hr; cases hr
  | some ds =>
    rw [hu] at hr
    cases ds <;> first
      | (cases hr; done)
      | skip
    rename_i e
    simp only at hr
    cases hz : zeroA P e with
    | none => rw [hz] at hr; cases hr
    | some z =>
      cases hs : sizeA P e with
      | none => rw [hz, hs] at hr; cases hr
      | some size =>
        rw [hz, hs] at hr
        simp only at hr
        split at hr
        · obtain ⟨e1, e2, _, _⟩ := val_run hr
          generalize hvx : a.eval x = vx at hx exec
          have hv : ∃ p c, vx = .slice p 0 c := by
            cases hx with
            | seq p cap sz b q _ _ U hcap hmax hclip hp' hsz hcc hvv => exact ⟨p, cap, rfl⟩
          obtain ⟨p, c, rfl⟩ := hv
          refine ok_same M (v := .tuple #[]) (exec ?_) e2 (by rw [e1]; exact .tup [] [] rfl (by simp))
          cases p <;> simp [Builtin.clear_, run_underlying hu]
        · rename_i id off len
          simp only [Rd.run] at hr
          cases hl : look hp id with
          | none => rw [hl] at hr; cases hr
          | some ob =>
            rw [hl] at hr
            have hob := M.obs id ob hl
            cases ob with
            | row sz es =>
              simp only at hr
              by_cases hg : sz = size ∧ z.cells.length = size ∧ 0 < size ∧ z.cells.all solid = true
              · rw [if_pos hg] at hr
                obtain ⟨g1, g2, hp0, g3⟩ := hg
                injection hr with hr; injection hr with hr _; subst hr
                have hle := hc _ (List.mem_singleton.2 rfl)
                simp only [] at hle
                obtain ⟨i, zv, hi, hzv, hE⟩ := zero_each (S := S) (β := β) (w := w) hz (by cases z <;> first | rfl | (simp [AV.cells, solid] at g3))
                have hisz : i.size = size := by unfold sizeA at hs; rw [hi] at hs; simpa using hs
                have hzs : zv.cells.size = size := by have := hE.1; rw [g2] at this; simpa using this
                obtain ⟨bj, q1, q2, q3⟩ := hob
                generalize hvx : a.eval x = vx at hx exec
                cases hx with
                | row _ _ _ ad bi hb hlb ha =>
                  rw [hb] at q1; injection q1 with q1; subst q1
                  by_cases h0 : len = 0
                  · subst h0
                    refine ok_value (v := .tuple #[]) (w' := w) (exec (by simp [Builtin.clear_, run_underlying hu])) (.refl _ _ _) ?_ (.tup [] [] rfl (by simp))
                    have : (es.take off ++ List.replicate 0 z ++ es.drop (off + 0)) = es := by simp
                    rw [this]
                    obtain ⟨E, M'⟩ := M.turn (w' := w) hb hl (by simp) ⟨rfl, rfl, rfl, Nat.le_refl _, fun _ _ _ => rfl⟩ (.row sz es) ⟨bi, hb, q2, q3⟩
                    simpa [putAll] using M'
                  · have hmade := made_flat (S := S) (β := β) (w := w) hE hzs g2 hp0 len
                    obtain ⟨cur, ty, r1, r2, r3, r4⟩ := q3.splice (M.own id bi hb).1 M.sub (k := off) (ys := List.replicate len z) (by simpa using hle) (by intro e he; rw [(List.mem_replicate.1 he).2, q2, g1]; exact g2) hmade
                    rw [List.length_replicate] at r4
                    obtain ⟨E, M'⟩ := M.turn hb hl (by simp) (setRow_turns bi.blk _ rfl) (.row sz (es.take off ++ List.replicate len z ++ es.drop (off + len))) ⟨bi, hb, q2, r4⟩
                    refine ok_value (v := .tuple #[]) (exec ?_) E (by simpa [putAll] using M') (.tup [] [] rfl (by simp))
                    have hcap : es.length ≤ bi.cap := by obtain ⟨_, _, _, _, h, _⟩ := q3; exact h
                    have had := ha (by omega)
                    have hone : ∀ v, v ∈ (madeCells zv.cells (len * size)).toList → v.oneCell' = true := by
                      intro v hv
                      have hsol : ∀ c, c ∈ flat (List.replicate len z) → solid c = true := by
                        intro c hcm
                        simp only [flat, List.mem_flatten, List.mem_map] at hcm
                        obtain ⟨l, ⟨e, he, rfl⟩, hcl⟩ := hcm
                        rw [(List.mem_replicate.1 he).2] at hcl
                        exact List.all_eq_true.1 g3 c hcl
                      exact hmade.one hsol v hv
                    have hst := run_storeCells_at P bi.blk (off * bi.sz) ty (madeCells zv.cells (len * size)).toList 0 cur w r1 (by simpa using r3) hone
                    simp only [Nat.add_zero] at hst
                    have hzc : Builtin.zeroCells zv.cells len = madeCells zv.cells (len * size) := by rw [← hzs]; rfl
                    obtain ⟨m, rfl⟩ : ∃ m, len = m + 1 := ⟨len - 1, by omega⟩
                    simp [Builtin.clear_, run_underlying hu, zeroValue, typeInfo, hi, hzv, hzc, had, hst]
              · rw [if_neg hg] at hr; cases hr
            | _ => cases hr
        · cases hr

theorem ok_max {x y : Operand} {t u : TypeId} {k k' : IntKind} {p q : Int} (ho : o.op = .call ⟨.builtin .max, #[x, y], #[t, u]⟩) (M : Mem F S β hp w) (hx : V S β w (a.eval x) (.int k p)) (hy : V S β w (a.eval y) (.int k' q))
    (hr : (val (.int k (if q > p then q else p)) sc).run (look hp) = some (res, rd)) : OpOK P F S β hp w a o res := by
  obtain ⟨e1, e2, _, _⟩ := val_run hr
  generalize hvx : a.eval x = vx at hx
  generalize hvy : a.eval y = vy at hy
  cases hx; cases hy
  refine ok_same M (v := .int k (if q > p then q else p)) ?_ e2 (by rw [e1]; exact .int _ _)
  simp [execOp, ho, resolve, invoke, builtin, hvx, hvy, Builtin.max_, Builtin.max2]

theorem ok_min {x y : Operand} {t u : TypeId} {k k' : IntKind} {p q : Int} (ho : o.op = .call ⟨.builtin .min, #[x, y], #[t, u]⟩) (M : Mem F S β hp w) (hx : V S β w (a.eval x) (.int k p)) (hy : V S β w (a.eval y) (.int k' q))
    (hr : (val (.int k (if q < p then q else p)) sc).run (look hp) = some (res, rd)) : OpOK P F S β hp w a o res := by
  obtain ⟨e1, e2, _, _⟩ := val_run hr
  generalize hvx : a.eval x = vx at hx
  generalize hvy : a.eval y = vy at hy
  cases hx; cases hy
  refine ok_same M (v := .int k (if q < p then q else p)) ?_ e2 (by rw [e1]; exact .int _ _)
  simp [execOp, ho, resolve, invoke, builtin, hvx, hvy, Builtin.min_, Builtin.min2]

end
end Go.Ped
