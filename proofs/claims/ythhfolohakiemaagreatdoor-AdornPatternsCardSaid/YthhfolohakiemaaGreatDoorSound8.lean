/-
  The engine, part 11: structs and slices that are built; make.
-/
import Derived.Test.YthhfolohakiemaaGreatDoorSound7
set_option linter.unusedVariables false
namespace Go.Ped
open Go.RowKit

section
variable {P : Program} {F : Fr} {S : Blk} {β : Beta} {hp : List (Nat × Ob)} {w : World} {a : Act} {o : Oper} {res : Res} {rd : List Nat} {sc : List Dir}

theorem fold_set (off : Nat) : ∀ (l : List Value) (k : Nat) (cells : Array Value), off + k + l.length ≤ cells.size →
    ((l.zipIdx k).foldl (fun cs (x : Value × Nat) => cs.setIfInBounds (off + x.2) x.1) cells).toList = cells.toList.take (off + k) ++ l ++ cells.toList.drop (off + k + l.length)
  | [], k, cells, h => by simp
  | v :: l, k, cells, h => by
    simp only [List.length_cons] at h
    rw [List.zipIdx_cons, List.foldl_cons, fold_set off l (k + 1) _ (by simp; omega)]
    apply List.ext_getElem?
    intro m
    have h1 : off + (k + 1) + l.length ≤ (cells.setIfInBounds (off + k) v).toList.length := by simp; omega
    have h2 : off + k + (v :: l).length ≤ cells.toList.length := by simp; omega
    rw [over_get _ _ _ _ h1, over_get _ _ _ _ h2]
    simp only [List.length_cons, Array.toList_setIfInBounds, List.getElem?_set]
    by_cases c1 : m < off + k
    · rw [if_pos c1, if_pos (by omega), if_neg (by omega)]
    · rw [if_neg c1]
      by_cases c2 : m = off + k
      · subst c2
        rw [if_pos (by omega), if_pos rfl, if_pos (by simp; omega), if_pos (by omega)]
        simp
      · rw [if_neg (by omega)]
        by_cases c3 : m < off + k + (l.length + 1)
        · rw [if_pos (by omega), if_pos c3, show m - (off + k) = (m - (off + (k + 1))) + 1 by omega]
          simp
        · rw [if_neg (by omega), if_neg c3, if_neg (by omega)]

/-- Parts, one by one. -/
def Parts (S : Blk) (β : Beta) (w : World) : List (Nat × Value) → List (Nat × AV) → Prop
  | [], [] => True
  | (i, v) :: r, (j, x) :: s => i = j ∧ V S β w v x ∧ Parts S β w r s
  | _, _ => False

theorem fill_sound (place : Nat → Option (Nat × Nat)) : ∀ (ps : List (Nat × Value)) (qs : List (Nat × AV)) (cells : Array Value) (cs out : List AV), Parts S β w ps qs → Each S β w cells.toList cs → fillA place cs qs = some out →
    ∃ out', Instr.fill place cells ps = some out' ∧ Each S β w out'.toList out
  | [], [], cells, cs, out, _, hE, h => by
    simp only [fillA] at h
    injection h with h
    subst h
    exact ⟨cells, rfl, hE⟩
  | (i, v) :: ps, (j, x) :: qs, cells, cs, out, hP, hE, h => by
    obtain ⟨rfl, hv, hP⟩ := hP
    simp only [fillA] at h
    cases hp : place i with
    | none => rw [hp] at h; cases h
    | some y =>
      obtain ⟨off, size⟩ := y
      rw [hp] at h
      simp only at h
      by_cases hc : isDead x = true ∨ x.cells.length ≠ size ∨ off + x.cells.length > cs.length
      · rw [if_pos hc] at h; cases h
      · rw [if_neg hc] at h
        have hx : x ≠ .dead := by rintro rfl; exact hc (.inl rfl)
        have h1 : x.cells.length = size := by apply Decidable.not_not.1; intro h; exact hc (.inr (.inl h))
        have h2 : off + x.cells.length ≤ cs.length := by apply Nat.le_of_not_lt; intro h; exact hc (.inr (.inr h))
        have hEx := each_of_V hv hx
        have hl : v.cells.size = x.cells.length := by have := hEx.1; simpa using this
        have hcl : cells.size = cs.length := by have := hE.1; simpa using this
        have hf := fold_set off v.cells.toList 0 cells (by simp [hl, hcl]; omega)
        simp only [Nat.add_zero] at hf
        have hfold : v.cells.zipIdx.foldl (fun cs (x : Value × Nat) => cs.setIfInBounds (off + x.2) x.1) cells = (cells.toList.take off ++ v.cells.toList ++ cells.toList.drop (off + v.cells.toList.length)).toArray := by
          apply Array.toList_inj.1
          rw [← Array.foldl_toList, Array.toList_zipIdx]
          simpa using hf
        have hE2 : Each S β w (cells.toList.take off ++ v.cells.toList ++ cells.toList.drop (off + v.cells.toList.length)) (overA cs off x.cells) := by
          refine ⟨?_, fun m u c h3 h4 => ?_⟩
          · simp only [overA, List.length_append, List.length_take, List.length_drop, Array.length_toList]
            omega
          · rw [over_get _ _ _ _ (by simp [hl, hcl]; omega)] at h3
            rw [overA, over_get _ _ _ _ h2] at h4
            simp only [Array.length_toList, hl] at h3
            by_cases c1 : m < off
            · rw [if_pos c1] at h3 h4; exact hE.2 m u c h3 h4
            · rw [if_neg c1] at h3 h4
              by_cases c2 : m < off + x.cells.length
              · rw [if_pos c2] at h3 h4; exact hEx.2 _ u c h3 h4
              · rw [if_neg c2] at h3 h4; exact hE.2 m u c h3 h4
        obtain ⟨out', q1, q2⟩ := fill_sound place ps qs (cells.toList.take off ++ v.cells.toList ++ cells.toList.drop (off + v.cells.toList.length)).toArray (overA cs off x.cells) out hP hE2 h
        refine ⟨out', ?_, q2⟩
        simp only [Instr.fill, hp]
        have hn : ¬ ((decide (v.cells.size ≠ size) || decide (off + v.cells.size > cells.size)) = true) := by simp; omega
        rw [if_neg hn, hfold]
        exact q1
  | [], _ :: _, _, _, _, h, _, _ => h.elim
  | _ :: _, [], _, _, _, h, _, _ => h.elim

theorem zero_each {t : TypeId} {z : AV} (h : zeroA P t = some z) (hd : isDead z = false) : ∃ i v, P.info? t = some i ∧ i.zero = some v ∧ Each S β w v.cells.toList z.cells := by
  obtain ⟨v, _, hv, i, hi, hz⟩ := zero_of (S := S) (β := β) (w := w) h
  exact ⟨i, v, hi, hz, each_of_V hv (by rintro rfl; cases hd)⟩

theorem ok_build {t : TypeId} {ps : Array (Nat × Operand)} {qs : List (Nat × AV)} (ho : o.op = .build t ps) (M : Mem F S β hp w) (hP : Parts S β w (ps.toList.map fun x => (x.1, a.eval x.2)) qs)
    (hr : (buildA P t qs sc).run (look hp) = some (res, rd)) : OpOK P F S β hp w a o res := by
  unfold buildA at hr
  cases hu : P.underlying t with
  | none => rw [hu] at hr; simp at hr; cases hr
  | some d =>
    rw [hu] at hr
    cases d with
    | struct fields =>
      cases hz : zeroA P t with
      | none => rw [hz] at hr; cases hr
      | some z =>
        rw [hz] at hr
        simp only at hr
        cases hm : fields.toList.mapM (fun f => (P.info? f.type).map fun i => (f.offset, i.size)) with
        | none => rw [hm] at hr; cases hr
        | some places =>
          rw [hm] at hr
          simp only at hr
          cases hf : fillA (places.toArray[·]?) z.cells qs with
          | none => rw [hf] at hr; cases hr
          | some cs =>
            rw [hf] at hr
            simp only at hr
            by_cases hd : isDead z = true
            · rw [if_pos hd] at hr; cases hr
            · rw [if_neg hd] at hr
              obtain ⟨e1, e2, _, _⟩ := val_run hr
              obtain ⟨i, v, hi, hzv, hE⟩ := zero_each (S := S) (β := β) (w := w) hz (by simpa using hd)
              obtain ⟨out, h1, h2⟩ := fill_sound _ _ _ v.cells _ _ hP hE hf
              refine ok_same M (v := .agg out) ?_ e2 ?_
              · have hb : P.built t (ps.map fun (i, x) => (i, a.eval x)).toList = some out := by
                  unfold Program.built
                  rw [hi, hu]
                  simp only [hzv, hm, Array.toList_map]
                  exact h1
                have := run_build (P := P) w t (ps.map fun (i, x) => (i, a.eval x)) out hb
                simp [execOp, ho, this]
              · rw [e1]
                have := V.agg (S := S) (β := β) (w := w) _ _ h2.1 h2.2
                simpa using this
    | _ => cases hz : zeroA P t <;> rw [hz] at hr <;> cases hr

end
end Go.Ped
