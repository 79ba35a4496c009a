/-
  The engine, part 6: equality of structs, conversions, function values, slices, lengths, calls.
-/
import Derived.Test.YthhfolohakiemaaGreatDoorSound2
set_option linter.unusedVariables false
namespace Go.Ped
open Go.RowKit

section
variable {P : Program} {F : Fr} {S : Blk} {β : Beta} {hp : List (Nat × Ob)} {w : World} {a : Act} {o : Oper} {res : Res} {rd : List Nat} {sc : List Dir}

/-- The value of a type that so many cells are. -/
def valOf (g : Bool) (vs : List Value) : Value := if g then .agg vs.toArray else vs.headD undef

/-- Cell by cell. -/
def Each (S : Blk) (β : Beta) (w : World) (vs : List Value) (xs : List AV) : Prop := vs.length = xs.length ∧ ∀ (i : Nat) v x, vs[i]? = some v → xs[i]? = some x → V S β w v x

theorem Each.take {vs : List Value} {xs : List AV} (h : Each S β w vs xs) (n : Nat) : Each S β w (vs.take n) (xs.take n) := by
  refine ⟨by rw [List.length_take, List.length_take, h.1], fun i v x h1 h2 => ?_⟩
  rw [List.getElem?_take] at h1 h2
  split at h1
  · rename_i hi; rw [if_pos hi] at h2; exact h.2 i v x h1 h2
  · cases h1
theorem Each.drop {vs : List Value} {xs : List AV} (h : Each S β w vs xs) (n : Nat) : Each S β w (vs.drop n) (xs.drop n) := by
  refine ⟨by rw [List.length_drop, List.length_drop, h.1], fun i v x h1 h2 => ?_⟩
  rw [List.getElem?_drop] at h1 h2
  exact h.2 _ v x h1 h2

theorem run_part {t : TypeId} {g : Bool} {n : Nat} (hg : aggA P t = some g) (hn : sizeA P t = some n) (vs : List Value) (k : Nat) (hk : k + n ≤ vs.length) (h1 : g = false → n = 1) :
    (part t vs.toArray k).run P w = .ok (valOf g ((vs.drop k).take n)) w := by
  cases g with
  | true => simp [part, run_isAggA hg, run_sizeOfA hn, valOf, List.extract_eq_take_drop, Nat.add_sub_cancel_left]
  | false =>
    have := h1 rfl
    subst this
    have hlt : k < vs.length := by omega
    have e : (vs.drop k).take 1 = [vs[k]] := by rw [List.drop_eq_getElem_cons hlt]; rfl
    simp [part, run_isAggA hg, valOf, e, hlt]

theorem drop_of_length {xs xs' : List AV} {m k : Nat} (h : xs' = xs.drop k) (hl : xs.length = m + xs'.length) (hk : k ≤ xs.length) : k = m := by
  have := congrArg List.length h
  rw [List.length_drop] at this
  omega

theorem eqFs_sound (d e : Nat) (f : TypeId → List AV → List AV → Option (Bool × List AV × List AV))
    (hf : ∀ (t : TypeId) (xs ys xs' ys' : List AV) (r : Bool) (vs us : List Value), f t xs ys = some (r, xs', ys') → Each S β w vs xs → Each S β w us ys →
      ∃ m, xs' = xs.drop m ∧ ys' = ys.drop m ∧ m ≤ xs.length ∧ m ≤ ys.length ∧ ∀ g, aggA P t = some g → (g = false → m = 1) → (Op.equalIn e t (valOf g (vs.take m)) (valOf g (us.take m))).run P w = .ok r w) :
    ∀ (gs : List Field) (n : Nat) (xs ys xs' ys' : List AV) (r : Bool) (vs us : List Value), eqFs P f gs n (xs.drop n) (ys.drop n) = some (r, xs', ys') → Each S β w vs xs → Each S β w us ys → n ≤ xs.length → n ≤ ys.length →
      ∃ m, n ≤ m ∧ xs' = xs.drop m ∧ ys' = ys.drop m ∧ m ≤ xs.length ∧ m ≤ ys.length ∧ ∀ M, m ≤ M → (Op.eqFields e (vs.take M).toArray (us.take M).toArray gs).run P w = .ok r w
  | [], n, xs, ys, xs', ys', r, vs, us, h, hv, hu, h1, h2 => by
    simp only [eqFs] at h
    injection h with h; injection h with h3 h4; injection h4 with h4 h5
    subst h3; subst h4; subst h5
    exact ⟨n, Nat.le_refl _, rfl, rfl, h1, h2, fun M _ => by simp [Op.eqFields]⟩
  | g :: gs, n, xs, ys, xs', ys', r, vs, us, h, hv, hu, h1, h2 => by
    simp only [eqFs] at h
    by_cases hg : g.offset = n ∧ g.name ≠ "_"
    · rw [if_pos hg] at h
      cases hx : f g.type (xs.drop n) (ys.drop n) with
      | none => rw [hx] at h; cases h
      | some p =>
        obtain ⟨c, xs1, ys1⟩ := p
        rw [hx] at h
        cases hs : sizeA P g.type with
        | none => rw [hs] at h; cases h
        | some m =>
          cases ha : aggA P g.type with
          | none => rw [hs, ha] at h; cases h
          | some b =>
            rw [hs, ha] at h
            simp only at h
            split at h
            · rename_i hlen
              obtain ⟨l1, l2, l3⟩ := hlen
              cases hq : eqFs P f gs (n + m) xs1 ys1 with
              | none => rw [hq] at h; cases h
              | some q =>
                obtain ⟨r1, xs2, ys2⟩ := q
                rw [hq] at h
                injection h with h; injection h with h3 h4; injection h4 with h4 h5
                subst h3; subst h4; subst h5
                obtain ⟨k, e1, e2, e3, e4, hrun⟩ := hf _ _ _ _ _ _ _ _ hx (hv.drop n) (hu.drop n)
                have hk : k = m := drop_of_length e1 l1 e3
                subst hk
                rw [List.length_drop] at e3 e4
                rw [List.drop_drop] at e1 e2
                rw [e1, e2] at hq
                obtain ⟨j, i2, i3, i4, i5, i6, i1⟩ := eqFs_sound d e f hf gs (n + k) xs ys _ _ r1 vs us hq hv hu (by omega) (by omega)
                refine ⟨j, by omega, i3, i4, i5, i6, fun M hM => ?_⟩
                have hrun := hrun b ha l3
                have tk : ∀ (l : List Value), ((l.take M).drop n).take k = (l.drop n).take k := by
                  intro l
                  rw [List.drop_take, List.take_take, Nat.min_eq_left (by omega)]
                have p1 := run_part (P := P) (w := w) ha hs (vs.take M) n (by rw [List.length_take]; have := hv.1; omega) l3
                have p2 := run_part (P := P) (w := w) ha hs (us.take M) n (by rw [List.length_take]; have := hu.1; omega) l3
                rw [tk] at p1 p2
                have i1 := i1 M hM
                simp only [Op.eqFields, hg.2, ne_eq, not_false_eq_true, if_true, Sem.run_bind, hg.1, p1, p2, Result.andThen_ok, hrun]
                cases c
                · simp
                · simp [i1]
            · cases h
    · rw [if_neg hg] at h; cases h

theorem eqTy_sound : ∀ (d : Nat) (e : Nat), d ≤ e → ∀ (t : TypeId) (xs ys xs' ys' : List AV) (r : Bool) (vs us : List Value), eqTy P d t xs ys = some (r, xs', ys') → Each S β w vs xs → Each S β w us ys →
      ∃ m, xs' = xs.drop m ∧ ys' = ys.drop m ∧ m ≤ xs.length ∧ m ≤ ys.length ∧ ∀ g, aggA P t = some g → (g = false → m = 1) → (Op.equalIn e t (valOf g (vs.take m)) (valOf g (us.take m))).run P w = .ok r w
  | 0, _, _, _, _, _, _, _, _, _, _, h, _, _ => by cases h
  | d + 1, e, hde, t, xs, ys, xs', ys', r, vs, us, h, hv, hu => by
    obtain ⟨e, rfl⟩ : ∃ e', e = e' + 1 := ⟨e - 1, by omega⟩
    have heads : ∀ {x y : AV} {l l' : List AV}, xs = x :: l → ys = y :: l' → ∃ v u, V S β w v x ∧ V S β w u y ∧ vs.take 1 = [v] ∧ us.take 1 = [u] := by
      rintro x y l l' rfl rfl
      match vs, us, hv, hu with
      | v :: _, u :: _, hv, hu => exact ⟨v, u, hv.2 0 v x rfl rfl, hu.2 0 u y rfl rfl, rfl, rfl⟩
      | [], _, hv, _ => exact absurd hv.1 (by simp)
      | _ :: _, [], _, hu => exact absurd hu.1 (by simp)
    unfold eqTy at h
    split at h
    · rename_i k0 k p l k' q l' hut
      by_cases hk : k = k'
      · rw [if_pos hk] at h
        subst hk
        injection h with h; injection h with h3 h4; injection h4 with h4 h5
        subst h3; subst h4; subst h5
        obtain ⟨v, u, h1, h2, h3, h4⟩ := heads rfl rfl
        refine ⟨1, rfl, rfl, by simp, by simp, fun g hg _ => ?_⟩
        cases h1; cases h2
        rw [h3, h4]
        have : g = false := by unfold aggA at hg; rw [hut] at hg; simpa using hg.symm
        subst this
        simp only [valOf, List.headD_cons, Bool.false_eq_true, if_false]
        rw [run_equalIn_int w e t k k0 p q hut]
        rfl
      · rw [if_neg hk] at h; cases h
    · rename_i p l q l' hut
      injection h with h; injection h with h3 h4; injection h4 with h4 h5
      subst h3; subst h4; subst h5
      obtain ⟨v, u, h1, h2, h3, h4⟩ := heads rfl rfl
      refine ⟨1, rfl, rfl, by simp, by simp, fun g hg _ => ?_⟩
      cases h1; cases h2
      rw [h3, h4]
      have : g = false := by unfold aggA at hg; rw [hut] at hg; simpa using hg.symm
      subst this
      simp only [valOf, List.headD_cons, Bool.false_eq_true, if_false]
      rw [run_equalIn_bool' w e t p q hut]
      cases p <;> cases q <;> rfl
    · rename_i p l q l' hut
      injection h with h; injection h with h3 h4; injection h4 with h4 h5
      subst h3; subst h4; subst h5
      obtain ⟨v, u, h1, h2, h3, h4⟩ := heads rfl rfl
      refine ⟨1, rfl, rfl, by simp, by simp, fun g hg _ => ?_⟩
      cases h1; cases h2
      rw [h3, h4]
      have : g = false := by unfold aggA at hg; rw [hut] at hg; simpa using hg.symm
      subst this
      simp only [valOf, List.headD_cons, Bool.false_eq_true, if_false]
      rw [run_equalIn_string w e t p q hut, beq_text]
    · rename_i fields hut
      by_cases hst : P.stoodInHeld t = true
      · rw [if_pos hst] at h; cases h
      · rw [if_neg hst] at h
        have hfo : P.fieldsOf t = fields := by unfold Program.fieldsOf; rw [hut]
        obtain ⟨m, _, i3, i4, i5, i6, i1⟩ := eqFs_sound d e (eqTy P d) (fun t xs ys xs' ys' r vs us h1 h2 h3 => eqTy_sound d e (by omega) t xs ys xs' ys' r vs us h1 h2 h3) fields.toList 0 _ _ xs' ys' r vs us (by simpa using h) hv hu (by omega) (by omega)
        refine ⟨m, i3, i4, i5, i6, fun g hg _ => ?_⟩
        have : g = true := by unfold aggA at hg; rw [hut] at hg; simpa using hg.symm
        subst this
        simp only [valOf, if_true]
        rw [run_equalIn_struct w e t _ _ (by rw [hfo]; exact hut) (by simpa using hst), hfo]
        exact i1 m (Nat.le_refl _)
    · cases h

theorem ok_eqAgg {op : BinOp} {t ty : TypeId} {x y : Operand} {xs ys : List AV} (ho : o.op = .binOp op t x y ty) (M : Mem F S β hp w) (hx : V S β w (a.eval x) (.agg xs)) (hy : V S β w (a.eval y) (.agg ys))
    (hr : (eqAggA P op t (.agg xs) (.agg ys) sc).run (look hp) = some (res, rd)) (hc : ∀ c, c ∈ res.cs → c.p) : OpOK P F S β hp w a o res := by
  simp only [eqAggA] at hr
  by_cases hg : P.eqGuardType P.depth t = false ∧ aggA P t = some true
  · rw [if_pos hg] at hr
    cases hq : eqTy P 20 t xs ys with
    | none => rw [hq] at hr; cases hr
    | some p =>
      obtain ⟨b, l, l'⟩ := p
      rw [hq] at hr
      generalize hvx : a.eval x = vx at hx
      generalize hvy : a.eval y = vy at hy
      cases hx with
      | agg vs _ hl h =>
        cases hy with
        | agg us _ hl' h' =>
          have main : l = [] → l' = [] → (Op.equalIn 10000 t (.agg vs.toArray) (.agg us.toArray)).run P w = .ok b w := by
            intro e1 e2
            obtain ⟨m, i1, i2, i3, i4, i5⟩ := eqTy_sound (P := P) (S := S) (β := β) (w := w) 20 10000 (by omega) t xs ys l l' b vs us hq ⟨hl, h⟩ ⟨hl', h'⟩
            have := i5 true hg.2 (by simp)
            have k1 : vs.take m = vs := List.take_of_length_le (by rw [e1] at i1; have := congrArg List.length i1; rw [List.length_drop] at this; simp at this; omega)
            have k2 : us.take m = us := List.take_of_length_le (by rw [e2] at i2; have := congrArg List.length i2; rw [List.length_drop] at this; simp at this; omega)
            rw [k1, k2] at this
            simpa [valOf] using this
          have gd : (eqGuard op t x y (.agg vs.toArray) (.agg us.toArray)).run P w = .ok () w := run_eqGuard_agg w op t x y _ _ hg.1
          cases l with
          | cons _ _ => simp only at hr; cases hr
          | nil =>
            cases l' with
            | cons _ _ => simp only at hr; cases hr
            | nil =>
              have main := main rfl rfl
              cases op <;> first
                | (simp only at hr; cases hr; done)
                | (obtain ⟨e1, e2⟩ := truth_run hr hc; refine ok_same M (v := .bool _) ?_ e2 (by rw [e1]; exact .bool _); simp only [execOp, ho, hvx, hvy, Sem.run_bind, gd, Result.andThen_ok, run_eql_struct, run_neq_struct, main, Sem.run_pure])
  · rw [if_neg hg] at hr; cases hr

end
end Go.Ped
