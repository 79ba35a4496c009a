/-
  The engine, part 15: all operations together.
-/
import Derived.Test.YthhfolohakiemaaGreatDoorMaps2
set_option linter.unusedVariables false
namespace Go.Ped
open Go.RowKit

section
variable {P : Program} {F : Fr} {S : Blk} {β : Beta} {hp : List (Nat × Ob)} {w : World} {a : Act} {o : Oper} {res : Res} {rd : List Nat} {sc : List Dir} {n : Nat} {env : List (Nat × AV)}

theorem each_ops (E : Env S β w n env a) (l : List Operand) : Each S β w (l.map a.eval) (l.map (evalA env)) := by
  refine ⟨by simp, fun i v x h1 h2 => ?_⟩
  rw [List.getElem?_map] at h1 h2
  cases hl : l[i]? with
  | none => rw [hl] at h1; cases h1
  | some q =>
    rw [hl] at h1 h2
    injection h1 with h1; injection h2 with h2
    subst h1; subst h2
    exact evalA_sound E q

theorem parts_ops (E : Env S β w n env a) : ∀ (l : List (Nat × Operand)), Parts S β w (l.map fun x => (x.1, a.eval x.2)) ((l.map (·.1)).zip ((l.map (·.2)).map (evalA env)))
  | [] => trivial
  | x :: l => ⟨rfl, evalA_sound E x.2, parts_ops E l⟩

set_option maxHeartbeats 1000000 in
theorem evalOp_sound {d : Nat} (E : Env S β w n env a) (M : Mem F S β hp w) (hr : (evalOp P d o.op (o.op.operands.toList.map (evalA env)) sc).run (look hp) = some (res, rd)) (hc : ∀ c, c ∈ res.cs → c.p)
    (hn : ∀ id, id ∈ res.new → look hp id = none) : OpOK P F S β hp w a o res := by
  cases hop : o.op with
  | move x => rw [hop] at hr; exact ok_move (.inl hop) M (evalA_sound E x) hr
  | assign x => rw [hop] at hr; exact ok_move (.inr hop) M (evalA_sound E x) hr
  | pick c x y =>
    rw [hop] at hr
    change (evalOp P d (.pick c x y) [evalA env c, evalA env x, evalA env y] sc).run _ = _ at hr
    have hC := evalA_sound E c
    generalize evalA env c = C at hr hC
    cases C with
    | bool b => exact ok_pick hop M hC (evalA_sound E x) (evalA_sound E y) hr
    | _ => cases hr
  | alloc t =>
    rw [hop] at hr
    change (match zeroA P t with | some z => if isDead z = true then Rd.fail else newVar d z sc | none => Rd.fail).run _ = _ at hr
    cases hz : zeroA P t with
    | none => rw [hz] at hr; cases hr
    | some z =>
      rw [hz] at hr
      simp only at hr
      by_cases hd : isDead z = true
      · rw [if_pos hd] at hr; cases hr
      · rw [if_neg hd] at hr
        exact ok_alloc hop M hz (by simpa using hd) hr hn
  | box t x =>
    rw [hop] at hr
    change (if isDead (evalA env x) = true then Rd.fail else newVar d (evalA env x) sc).run _ = _ at hr
    by_cases hd : isDead (evalA env x) = true
    · rw [if_pos hd] at hr; cases hr
    · rw [if_neg hd] at hr
      exact ok_box hop M (evalA_sound E x) (by simpa using hd) hr hn
  | build t ps =>
    rw [hop] at hr
    refine ok_build (sc := sc) (rd := rd) hop M (parts_ops E ps.toList) ?_
    simpa [Op.operands, evalOp] using hr
  | buildSlice t m ps =>
    rw [hop] at hr
    refine ok_buildSlice (d := d) (sc := sc) (rd := rd) hop M (parts_ops E ps.toList) ?_ hn
    simpa [Op.operands, evalOp] using hr
  | load t x => rw [hop] at hr; exact ok_load hop M (evalA_sound E x) hr hc
  | store t x y => rw [hop] at hr; exact ok_store hop M (evalA_sound E x) (evalA_sound E y) hr hc
  | nilCheck x =>
    rw [hop] at hr
    change (evalOp P d (.nilCheck x) [evalA env x] sc).run _ = _ at hr
    have hX := evalA_sound E x
    generalize evalA env x = X at hr hX
    cases X with
    | elt i k q => exact ok_nilCheck (.inl ⟨i, k, q, rfl⟩) hop M hX hr
    | tptr cs => exact ok_nilCheck (.inr ⟨cs, rfl⟩) hop M hX hr
    | _ => cases hr
  | binOp op t x y ty =>
    rw [hop] at hr
    change (if isNilV (evalA env y) = true then nilA P op t (evalA env x) (evalA env y) sc else if isAggV (evalA env x) = true then eqAggA P op t (evalA env x) (evalA env y) sc else binOpA P op t (evalA env x) (evalA env y) sc).run _ = _ at hr
    have hX := evalA_sound E x
    have hY := evalA_sound E y
    by_cases hnil : isNilV (evalA env y) = true
    · rw [if_pos hnil] at hr
      exact ok_nil hop M hX hY hr hc
    rw [if_neg hnil] at hr
    by_cases hd : isAggV (evalA env x) = true
    · rw [if_pos hd] at hr
      generalize evalA env x = X at hr hX hd
      generalize evalA env y = Y at hr hY
      cases X with
      | agg xs =>
        cases Y with
        | agg ys => exact ok_eqAgg hop M hX hY hr hc
        | _ => cases hr
      | _ => cases hd
    · rw [if_neg hd] at hr
      exact ok_binOp hop M hX hY hr hc
  | unOp op t x =>
    rw [hop] at hr
    change (evalOp P d (.unOp op t x) [evalA env x] sc).run _ = _ at hr
    have hX := evalA_sound E x
    generalize evalA env x = X at hr hX
    cases op with
    | not =>
      cases X with
      | bool b => exact ok_unOp hop M hX hr
      | _ => cases hr
    | _ => cases hr
  | convert s t x => rw [hop] at hr; exact ok_convert hop M (evalA_sound E x) hr hc
  | makeInterface t x =>
    rw [hop] at hr
    change (if concA P t = true then val (.iface t (evalA env x)) sc else Rd.fail).run _ = _ at hr
    by_cases hd : concA P t = true
    · rw [if_pos hd] at hr
      obtain ⟨ds, h1, h2⟩ := conc_of hd
      exact ok_makeInterface hop M (evalA_sound E x) h1 h2 hr
    · rw [if_neg hd] at hr; cases hr
  | makeFunc fn first cap =>
    rw [hop] at hr
    cases fn with
    | func f =>
      have hr' : (if (((first ++ cap).toList.map (evalA env)).length = first.size + cap.size) then val (.clo f (((first ++ cap).toList.map (evalA env)).take first.size) (((first ++ cap).toList.map (evalA env)).drop first.size)) sc else Rd.fail).run (look hp) = some (res, rd) := hr
      rw [if_pos (by simp)] at hr'
      exact ok_makeFunc hop M (each_ops E _) hr'
    | _ => cases hr
  | makeSlice t x y =>
    rw [hop] at hr
    change (evalOp P d (.makeSlice t x y) [evalA env x, evalA env y] sc).run _ = _ at hr
    have hX := evalA_sound E x
    have hY := evalA_sound E y
    generalize evalA env x = X at hr hX
    generalize evalA env y = Y at hr hY
    cases X with
    | int k p =>
      cases k with
      | i64 =>
        cases Y with
        | int k2 q =>
          cases k2 with
          | i64 => exact ok_makeSlice (d := d) hop M hX hY hr hc hn
          | _ => cases hr
        | _ => cases hr
      | _ => cases hr
    | _ => cases hr
  | slice t x lo hi mx =>
    rw [hop] at hr
    have hX := (evalA_sound E x).unNil
    have yes : ∀ (q : Operand), ((some q = none ∧ some (evalA env q) = none) ∨ ∃ q' y, some q = some q' ∧ some (evalA env q) = some y ∧ V S β w (a.eval q') y) := fun q => .inr ⟨q, _, rfl, rfl, evalA_sound E q⟩
    have no : (((none : Option Operand) = none ∧ (none : Option AV) = none) ∨ ∃ q' y, (none : Option Operand) = some q' ∧ (none : Option AV) = some y ∧ V S β w (a.eval q') y) := .inl ⟨rfl, rfl⟩
    cases lo with
    | some l =>
      cases hi with
      | some h =>
        cases mx with
        | some m =>
          change (sliceA P t (unNil (evalA env x)) (some (evalA env l)) (some (evalA env h)) (some (evalA env m)) sc).run _ = _ at hr
          exact ok_slice hop M hX (yes l) (yes h) (yes m) hr hc
        | none =>
          change (cutOr P t (unNil (evalA env x)) (some (evalA env l)) (some (evalA env h)) none sc).run _ = _ at hr
          generalize unNil (evalA env x) = X at hr hX
          unfold cutOr at hr
          split at hr
          · exact ok_cut hop M hX (yes l) (yes h) hr hc
          · exact ok_slice hop M hX (yes l) (yes h) no hr hc
      | none =>
        cases mx with
        | some m => cases hr
        | none =>
          change (cutOr P t (unNil (evalA env x)) (some (evalA env l)) none none sc).run _ = _ at hr
          generalize unNil (evalA env x) = X at hr hX
          unfold cutOr at hr
          split at hr
          · exact ok_cut hop M hX (yes l) no hr hc
          · exact ok_slice hop M hX (yes l) no no hr hc
    | none =>
      cases hi with
      | none => cases mx <;> cases hr
      | some h =>
        cases mx with
        | some m =>
          change (sliceA P t (unNil (evalA env x)) none (some (evalA env h)) (some (evalA env m)) sc).run _ = _ at hr
          exact ok_slice hop M hX no (yes h) (yes m) hr hc
        | none =>
          change (cutOr P t (unNil (evalA env x)) none (some (evalA env h)) none sc).run _ = _ at hr
          generalize unNil (evalA env x) = X at hr hX
          unfold cutOr at hr
          split at hr
          · exact ok_cut hop M hX no (yes h) hr hc
          · exact ok_slice hop M hX no (yes h) no hr hc
  | fieldAddr t x f => rw [hop] at hr; exact ok_fieldAddr hop M (evalA_sound E x) hr
  | field t x f => rw [hop] at hr; exact ok_field hop M (evalA_sound E x) hr
  | indexAddr t x i =>
    rw [hop] at hr
    change (evalOp P d (.indexAddr t x i) [evalA env x, evalA env i] sc).run _ = _ at hr
    have hI := evalA_sound E i
    generalize evalA env i = I at hr hI
    cases I with
    | int k m => exact ok_indexAddr hop M (evalA_sound E x).unNil hI hr hc
    | _ => cases hr
  | index t x i =>
    rw [hop] at hr
    change (evalOp P d (.index t x i) [evalA env x, evalA env i] sc).run _ = _ at hr
    have hI := evalA_sound E i
    generalize evalA env i = I at hr hI
    cases I with
    | int k m => exact ok_index hop M (evalA_sound E x) hI hr hc
    | _ => cases hr
  | extract x i =>
    rw [hop] at hr
    change (evalOp P d (.extract x i) [evalA env x] sc).run _ = _ at hr
    have hX := evalA_sound E x
    generalize evalA env x = X at hr hX
    cases X with
    | tup xs =>
      change (match xs[i]? with | some x => val x sc | none => Rd.fail).run _ = _ at hr
      cases hx : xs[i]? with
      | none => rw [hx] at hr; cases hr
      | some y => rw [hx] at hr; exact ok_extract hop M hX hx hr
    | _ => cases hr
  | typeAssert x xt t ok => rw [hop] at hr; exact ok_typeAssert hop M (evalA_sound E x) hr
  | makeMap t r =>
    rw [hop] at hr
    cases r with
    | none =>
      have hr' : (some (({ v := .map d, upd := [(d, .map [] [])], new := [d], sc := sc } : Res), ([] : List Nat))) = some (res, rd) := hr
      injection hr' with hr'
      injection hr' with hr' _
      subst hr'
      exact ok_makeMap hop M rfl rfl (hn d (by simp))
    | some r => cases hr
  | lookup t x y ok =>
    rw [hop] at hr
    change (if isAggV (evalA env y) = true then lookupS P t (evalA env x) (evalA env y) ok sc else lookupA P t (evalA env x) (evalA env y) ok sc).run _ = _ at hr
    have hY := evalA_sound E y
    by_cases hd : isAggV (evalA env y) = true
    · rw [if_pos hd] at hr
      generalize evalA env y = Y at hr hY hd
      cases Y with
      | agg ys => exact ok_lookupS hop M (evalA_sound E x) hY hr
      | _ => cases hd
    · rw [if_neg hd] at hr
      exact ok_lookup hop M (evalA_sound E x) hY hr
  | mapUpdate t x y z =>
    rw [hop] at hr
    change (if isAggV (evalA env y) = true then updateS P t (evalA env x) (evalA env y) (evalA env z) sc else updateA P t (evalA env x) (evalA env y) (evalA env z) sc).run _ = _ at hr
    have hY := evalA_sound E y
    by_cases hd : isAggV (evalA env y) = true
    · rw [if_pos hd] at hr
      generalize evalA env y = Y at hr hY hd
      cases Y with
      | agg ys => exact ok_updateS hop M (evalA_sound E x) hY (evalA_sound E z) hr
      | _ => cases hd
    · rw [if_neg hd] at hr
      exact ok_update hop M (evalA_sound E x) hY (evalA_sound E z) hr
  | call c =>
    rw [hop] at hr
    obtain ⟨callee, args, ts⟩ := c
    cases callee with
    | value f =>
      have hr' : (callA P (evalA env f) (args.toList.map (evalA env)) sc).run (look hp) = some (res, rd) := by
        simpa [Op.operands, Call.operands, evalOp] using hr
      exact ok_call hop M (evalA_sound E f) (each_ops E _) hr' hc hn
    | builtin b =>
      have hr' : (builtinA P d b ts (args.toList.map (evalA env)) sc).run (look hp) = some (res, rd) := by
        simpa [Op.operands, Call.operands, evalOp] using hr
      obtain ⟨args⟩ := args
      obtain ⟨ts⟩ := ts
      unfold builtinA at hr'
      split at hr'
      · rename_i t x h1 h2
        match args, h2 with
        | [q], h2 =>
          injection h2 with h2
          subst h2
          have : ts = [t] := h1
          subst this
          exact ok_len (ty := t) hop M (evalA_sound E q).unNil hr'
      · rename_i t u x y h1 h2
        match args, h2 with
        | [q, q'], h2 =>
          injection h2 with h2 h3
          injection h3 with h3
          subst h2; subst h3
          have : ts = [t, u] := h1
          subst this
          by_cases htu : t = u
          · rw [if_pos htu] at hr'
            subst htu
            exact ok_append (d := d) hop M (evalA_sound E q).unNil (evalA_sound E q').unNil hr' hc hn
          · rw [if_neg htu] at hr'; cases hr'
      · rename_i t x h1 h2
        match args, h2 with
        | [q], h2 =>
          injection h2 with h2
          subst h2
          have : ts = [t] := h1
          subst this
          exact ok_clear hop M (evalA_sound E q).unNil hr' hc
      · rename_i t u k p k' q0 h1 h2
        have hlen : args.length = 2 := by simpa using congrArg List.length h2
        match args, hlen, h2 with
        | [q, q'], _, h2 =>
          injection h2 with h2 h3
          injection h3 with h3
          have : ts = [t, u] := h1
          subst this
          exact ok_max hop M (h2 ▸ evalA_sound E q) (h3 ▸ evalA_sound E q') hr'
      · rename_i t u k p k' q0 h1 h2
        have hlen : args.length = 2 := by simpa using congrArg List.length h2
        match args, hlen, h2 with
        | [q, q'], _, h2 =>
          injection h2 with h2 h3
          injection h3 with h3
          have : ts = [t, u] := h1
          subst this
          exact ok_min hop M (h2 ▸ evalA_sound E q) (h3 ▸ evalA_sound E q') hr'
      · cases hr'
    | invoke _ _ => simp [evalOp] at hr; cases hr
  | _ => rw [hop] at hr; simp [evalOp] at hr; cases hr

end
end Go.Ped
